import Derived.Laws.AppendOwn
import Derived.KernelRfl
import Derived.Laws.Slices
import Derived.Laws.BytesString
import Derived.Laws.StructEq
import Derived.Great.BuildSlice
import Derived.Laws.OwnMore
set_option linter.constructorNameAsVariable false
set_option linter.unusedVariables false
set_option linter.unusedSimpArgs false
namespace Go.Soft
theorem zA {α:Type _} (a b:α):(some a=some b)=(a=b):=Option.some.injEq a b
theorem zB (a b:Bool):((a&&b)=true)=(a=true/\b=true):=Bool.and_eq_true a b
theorem zC (n:Nat):(n:Int).toNat=n:=Int.toNat_natCast n
theorem zD {p:Prop} [Decidable p]:(decide p=true)=p:=decide_eq_true_eq
theorem zE {α:Sort _} {a b:α}:cond true a b=a:=rfl
theorem zF {α:Sort _} {a b:α}:cond false a b=b:=rfl
theorem zG {α β:Type _} (a:α) (b:β) (c:α) (d:β):((a,b)=(c,d))=(a=c/\b=d):=Prod.mk.injEq a b c d
theorem zH {α:Type _} {a:α} {s t:List α}:a∈s++t↔a∈s\/a∈t:=List.mem_append
theorem zI {α:Type _} {a b:α} {l:List α}:a∈b::l↔a=b\/a∈l:=List.mem_cons
theorem zJ {α:Type _} (y:α) {a:α} {l:List α}:a∈l->a∈y::l:=List.mem_cons_of_mem y
theorem zK {α:Type _} {a b:List α}:(a++b).length=a.length+b.length:=List.length_append
theorem zL {α:Type _} {a:α}:[a].length=1:=rfl
theorem zM:(!true)=false:=rfl
theorem zN:(!false)=true:=rfl
theorem zO {α:Type _} {a:α} {l:List α}:a∈a::l:=List.mem_cons_self
theorem zP {m n:Nat} (k:Nat) (h:m<=n):m*k<=n*k:=Nat.mul_le_mul_right k h
theorem zQ {n m:Nat} (h:Nat.ble n m=true):n<=m:=Nat.le_of_ble_eq_true h
theorem zR {α:Type _} {a:α} {l:List α}:(a::l).length=l.length+1:=rfl
theorem zS {α:Type _} {a b:α}:a∈[b]↔a=b:=List.mem_singleton
theorem zT {α:Type _} {l:List α} {i:Nat} {a:α}:l.getD i a=l[i]?.getD a:=List.getD_eq_getElem?_getD
theorem zU {α:Type _} {a:α} {l:List α} {i:Nat}:l[i]? =some a↔∃ h:i<l.length,l[i]=a:=List.getElem?_eq_some_iff
theorem zV (h:Decidable True):@decide True h=true:=decide_true h
structure Slot where
 Name:ByteArray
 Ino:Int
structure aR where
 Kind:Int
 Links:Int
 ax:List Int
structure Block where
 bZ:Bool
 ah:List Slot
 Text:ByteArray
structure bO where
 Id:Int
 Kind:Int
 Ino:Int
 Ptr:Int
 Block:Int
 Slot:Int
 Name:ByteArray
 au:Bool
 gy:Bool
 bC:Int
 ab:List Int
structure Node where
 Path:ByteArray
 bZ:Bool
 Head:ByteArray
 NK:ByteArray
structure Event where
 Kind:Int
 Path:ByteArray
 To:ByteArray
 At:Int
 Text:ByteArray
inductive Ty | int | bool | byte | str | slot | inode | block | dep | node | event
abbrev El:Ty->Type
 | .int=>Int | .bool=>Bool | .byte=>UInt8 | .str=>ByteArray | .slot=>Slot | .inode=>aR
 | .block=>Block | .dep=>bO | .node=>Node | .event=>Event
inductive Ct
 | u | b (x:Bool) | i (k:IntKind) (n:Int) | s (x:ByteArray) | l (τ:Ty) (xs:List (El τ))
def cg:(τ:Ty)->El τ
 | .int=>0 | .bool=>false | .byte=>0 | .str=> .empty | .slot=>⟨.empty,0⟩ | .inode=>⟨0,0,[]⟩ | .block=>⟨false,[],.empty⟩
 | .dep=>⟨0,0,0,0,0,0,.empty,false,false,0,[]⟩ | .node=>⟨.empty,false,.empty,.empty⟩ | .event=>⟨0,.empty,.empty,0,.empty⟩
def cells:(τ:Ty)->El τ->List Ct
 | .int,n=>[.i .i64 n]
 | .bool,x=>[.b x]
 | .byte,x=>[.i .u8 (x.toNat:Int)]
 | .str,x=>[.s x]
 | .slot,x=>[.s x.Name,.i .i64 x.Ino]
 | .inode,x=>[.i .i64 x.Kind,.i .i64 x.Links,.l .int x.ax]
 | .block,x=>[.b x.bZ,.l .slot x.ah,.s x.Text]
 | .dep,x=>[.i .i64 x.Id,.i .i64 x.Kind,.i .i64 x.Ino,.i .i64 x.Ptr,.i .i64 x.Block,.i .i64 x.Slot,.s x.Name,.b x.au,.b x.gy,.i .i64 x.bC,.l .int x.ab]
 | .node,x=>[.s x.Path,.b x.bZ,.s x.Head,.s x.NK]
 | .event,x=>[.i .i64 x.Kind,.s x.Path,.s x.To,.i .i64 x.At,.s x.Text]
def sz:Ty->Nat
 | .int=>1 | .bool=>1 | .byte=>1 | .str=>1 | .slot=>2 | .inode=>3 | .block=>3 | .dep=>11 | .node=>4 | .event=>5
def rO:(τ:Ty)->List Ct->Option (El τ)
 | .int,[.i .i64 n]=>some n
 | .bool,[.b x]=>some x
 | .byte,[.i .u8 n]=>some (UInt8.ofNat n.toNat)
 | .str,[.s x]=>some x
 | .slot,[.s n,.i .i64 i]=>some ⟨n,i⟩
 | .inode,[.i .i64 k,.i .i64 l,.l .int p]=>some ⟨k,l,p⟩
 | .block,[.b d,.l .slot s,.s t]=>some ⟨d,s,t⟩
 | .dep,[.i .i64 a,.i .i64 b,.i .i64 c,.i .i64 d,.i .i64 e,.i .i64 f,.s g,.b h,.b i,.i .i64 j,.l .int k]=>some ⟨a,b,c,d,e,f,g,h,i,j,k⟩
 | .node,[.s a,.b b,.s c,.s d]=>some ⟨a,b,c,d⟩
 | .event,[.i .i64 a,.s b,.s c,.i .i64 d,.s e]=>some ⟨a,b,c,d,e⟩
 | _,_=>none
def CC:Ty->List Ct->Bool
 | .byte,[.i .u8 n]=>decide (0<=n)&&decide (n<256)
 | _,_=>true
def Ty.isByte:Ty->Bool
 | .byte=>true
 | _=>false
def Ty.deep:Ty->Bool
 | .inode | .block | .dep=>true
 | _=>false
inductive Cv
 | un | b (x:Bool) | i (k:IntKind) (n:Int) | s (x:ByteArray)
 | nl (τ:Ty)
 | sw (r:Nat) | sl (r off len:Nat)
 | nw (r e c:Nat) | ns (r e c off len:Nat)
 | pv (v c:Nat) | pe (r e c:Nat) | pn (r e c k d:Nat)
 | fn (f:Nat) (caps:List Nat)
inductive AV
 | c (x:Cv) | a (l:List Cv) | t (l:List (Bool×List Cv))
 | g (p:List (Nat×Bool)) (q:Bool) (v:AV)
structure Row where
 τ:Ty
 xs:List (El τ)
 ow:Nat
structure St where
 tm:List (Nat×AV)
 vs:List (Nat×List Cv)
 rs:List (Nat×Row)
def eu (w:Nat):Bool:=match w with | 2=>true | 4=>true | 5=>true | _=>false
def nO (d a:Nat):Bool:=match d with
 | 1=>true
 | 2=>eu a
 | 3=>(match a with | 3=>true | 4=>true | 5=>true | _=>false)
 | 4=>(match a with | 4=>true | 5=>true | _=>false)
 | 5=>(match a with | 5=>true | _=>false)
 | _=>false
def rL (w:Nat):Bool:=match w with | 3=>true | 4=>true | 5=>true | _=>false
def Re (w:Nat):Nat:=match w with | 3=>4 | _=>2
def OP (w:Nat):Nat:=match w with | 1=>1 | 2=>1 | _=>3
def lk {α:Type}:List (Nat×α)->Nat->Option α
 | [],_=>none
 | (k,v)::l,n=>match Nat.beq k n with
  | true=>some v
  | false=>lk l n
def Wh {α:Type} (n:Nat):List (Nat×α)->List (Nat×α)
 | []=>[]
 | (k,v)::l=>match Nat.beq k n with
  | true=>Wh n l
  | false=>(k,v)::Wh n l
def Mc {α:Type} (n:Nat) (v:α):List (Nat×α)->List (Nat×α)
 | []=>[]
 | (k,u)::l=>match Nat.beq k n with
  | true=>(k,v)::Mc n v l
  | false=>(k,u)::Mc n v l
def put {α:Type} (l:List (Nat×α)) (n:Nat) (v:α):List (Nat×α) :=
 match lk l n with
 | some _=>Mc n v l
 | none=>(n,v)::l
def cd (n:Nat):List Nat->Bool
 | []=>false
 | k::l=>match Nat.beq k n with
  | true=>true
  | false=>cd n l
def nth {α:Type}:List α->Nat->Option α
 | [],_=>none
 | x::_,0=>some x
 | _::l,n+1=>nth l n
def rP {α β:Type} (f:α->β):List α->List β
 | []=>[]
 | x::l=>f x::rP f l
def A6:List (Nat×Bool)->List (Nat×Bool)->Bool
 | [],_=>true
 | _::_,[]=>false
 | (a,x)::l,(b,y)::m=>Nat.beq a b&&((match x,y with | true,true | false,false=>true | _,_=>false)&&A6 l m)
structure Ctx where
 P:Program
 ty:List (Nat×Ty)
 id:Ty->TypeId
 eqs:List (Nat×List Ct)
 nt:Nat
def Ctx.at (X:Ctx) (f:Func):Ctx:={ X with nt:=f.ntmps }
def Ctx.RD (X:Ctx) (t:TypeId):Option Ty:=lk X.ty t
def BL (P:Program) (t:TypeId):Bool:=match P.underlying t with | some (.struct _) | some (.array ..)=>true | _=>false
def fV (P:Program) (t:TypeId):Nat:=match P.info? t with | some i=>i.size | none=>0
def CI (P:Program) (t:TypeId):Bool:=match P.underlying t with | some (.struct _)=>true | some (.array ..)=>true | some _=>Nat.beq (fV P t) 1 | none=>false
def xR (P:Program) (t:TypeId) (f:Nat):Option Nat:=match P.underlying t with | some (.struct fs)=>(match fs[f]? with | some x=>some x.offset | none=>none) | _=>none
def Co (P:Program) (t:TypeId) (f:Nat):TypeId:=match P.underlying t with | some (.struct fs)=>(match fs[f]? with | some x=>x.type | none=>0) | _=>0
def Pr (P:Program) (t:TypeId):Option TypeId:=match P.underlying t with | some (.slice e)=>some e | _=>none
def Ctx.WC (X:Ctx) (t:TypeId):Option Ty:=match Pr X.P t with | some e=>X.RD e | none=>none
def Ctx.lE (X:Ctx) (t:TypeId):Option Ty:=match Pr X.P t with
 | some e=>match X.RD e with
  | some τ=>match Nat.beq (X.id τ) e with | true=>some τ | false=>none
  | none=>none
 | none=>none
def Ctx.cst (X:Ctx) (t:TypeId):Value->Cv
 | .bool b=> .b b
 | .int k n=> .i k n
 | .string s=> .s s
 | .slice none 0 0=>match X.WC t with | some τ=> .nl τ | none=> .un
 | _=> .un
def Ctx.Tj (X:Ctx):Nat->TypeId->Option (List Cv)
 | 0,_=>none
 | d+1,t=>match X.P.underlying t with
  | some .bool=>some [.b false]
  | some (.int k)=>some [.i k 0]
  | some .string=>some [.s .empty]
  | some (.slice e)=>match X.RD e with | some τ=>some [.nl τ] | none=>some [.un]
  | some (.struct fs)=>zs (X.Tj d) fs.toList
  | _=>none
 where zs (f:TypeId->Option (List Cv)):List Field->Option (List Cv)
 | []=>some []
 | x::l=>match f x.type,zs f l with
  | some a,some b=>some (a++b)
  | _,_=>none
def FE:IntKind->IntKind->Bool
 | .i8,.i8 | .i16,.i16 | .i32,.i32 | .i64,.i64 | .u8,.u8 | .u16,.u16 | .u32,.u32 | .u64,.u64=>true
 | _,_=>false
def Xl:Cv->Value->Bool
 | .un,.agg _=>false
 | .un,.tuple _=>false
 | .un,_=>true
 | .b false,.bool false=>true
 | .i k n,.int k' n'=>FE k k'&&(match n,n' with | .ofNat 0,.ofNat 0=>true | _,_=>false)
 | .s x,.string y=>Nat.beq x.size 0&&Nat.beq y.size 0
 | .nl _,.slice none 0 0=>true
 | _,_=>false
def LI:List Cv->List Value->Bool
 | [],[]=>true
 | x::l,y::m=>Xl x y&&LI l m
 | _,_=>false
def GC (P:Program):List Field->Bool
 | []=>true
 | f::l=>match P.info? f.type with | some _=>GC P l | none=>false
def Rk (P:Program) (t:TypeId):Bool:=match P.underlying t with | some (.struct fs)=>GC P fs.toList | _=>false
def Ctx.zero (X:Ctx) (t:TypeId):Option (List Cv):=match X.Tj 8 t,X.P.info? t with
 | some cs,some i=>match i.zero with
  | some z=>match LI cs z.cells.toList with | true=>some cs | false=>none
  | none=>none
 | _,_=>none
def St.get (s:St) (t:Nat):AV:=match lk s.tm t with | some v=>v | none=> .c .un
def St.put (s:St) (d:Option Nat) (v:AV):St:=match d with | some d=>{ s with tm:=(d,v)::s.tm } | none=>s
def Ctx.yd (X:Ctx) (s:St) (p:List (Nat×Bool)) (ty:TypeId):Operand->AV
 | .tmp t=>match s.get t with
  | .g p' _ v=>match A6 p' p with | true=>v | false=> .c .un
  | v=>v
 | .const v=> .c (X.cst ty v)
 | .func f=> .c (.fn f [])
 | .global _=> .c .un
structure Lk where
 r:Nat->Option Row
 v:Nat->Option (List Cv)
def St.lk (s:St):Lk:=⟨Soft.lk s.rs,Soft.lk s.vs⟩
def Xk (r e:Nat) (c:Nat):Ct->Cv
 | .u=> .un | .b x=> .b x | .i k n=> .i k n | .s x=> .s x | .l _ _=> .nw r e c
def sS (r e:Nat):Nat->List Ct->List Cv
 | _,[]=>[]
 | c,x::l=>Xk r e c x::sS r e (c+1) l
def Row.cs (row:Row) (e:Nat):List Ct:=cells row.τ (row.xs.getD e (cg row.τ))
inductive Vw
 | no | w (τ:Ty) (xs:List (El τ)) | p (τ:Ty) (xs:List (El τ)) (off len:Nat)
def Lk.vw (m:Lk):Cv->Vw
 | .nl τ=> .w τ []
 | .sw r=>match m.r r with | some row=> .w row.τ row.xs | none=> .no
 | .sl r off len=>match m.r r with | some row=> .p row.τ row.xs off len | none=> .no
 | .nw r e c=>match m.r r with
  | some row=>match nth (row.cs e) c with | some (.l τ ys)=> .w τ ys | _=> .no
  | none=> .no
 | .ns r e c off len=>match m.r r with
  | some row=>match nth (row.cs e) c with | some (.l τ ys)=> .p τ ys off len | _=> .no
  | none=> .no
 | _=> .no
def sub {α:Type} (xs:List α) (off len:Nat):List α:=(xs.drop off).take len
def Vw.ct:Vw->Option Ct
 | .no=>none
 | .w τ xs=>some (.l τ xs)
 | .p τ xs off len=>some (.l τ (sub xs off len))
def Vw.len:Vw->Option Nat
 | .no=>none
 | .w _ xs=>some xs.length
 | .p _ _ _ len=>some len
def Lk.ct (m:Lk):Cv->Option Ct
 | .un=>some .u | .b x=>some (.b x) | .i k n=>some (.i k n) | .s x=>some (.s x)
 | c=>(m.vw c).ct
def Lk.iD (m:Lk):List Cv->Option (List Ct)
 | []=>some []
 | c::l=>match m.ct c with
  | some x=>match m.iD l with | some y=>some (x::y) | none=>none
  | none=>none
def Lk.from (m:Lk):Cv->Option (List Cv)
 | .pv v c=>match m.v v with | some cs=>some (cs.drop c) | none=>none
 | .pe r e c=>match m.r r with | some row=>some ((sS r e 0 (row.cs e)).drop c) | none=>none
 | .pn r e c k d=>match m.vw (.nw r e c) with
  | .w τ ys=>match τ.deep with
   | true=>none
   | false=>some ((sS 0 0 0 (cells τ (ys.getD k (cg τ)))).drop d)
  | _=>none
 | _=>none
structure Dl where
 mv:List (Nat×(Nat×Nat×Nat))
 kr:List Nat
 ke:List Nat
 kn:List Nat
 kv:List Nat
 rs:List (Nat×Option Row)
 vs:List (Nat×List Cv)
def Dl.z:Dl:=⟨[],[],[],[],[],[],[]⟩
def Cv.row:Cv->Option Nat
 | .sw r | .sl r _ _ | .nw r _ _ | .ns r _ _ _ _ | .pe r _ _ | .pn r _ _ _ _=>some r
 | _=>none
def Cv.inner:Cv->Bool
 | .nw .. | .ns .. | .pn .. =>true
 | _=>false
def rJ (l m:List Nat):Bool:=match l with
 | []=>false
 | x::l=>match cd x m with | true=>true | false=>rJ l m
def Dl.map (δ:Dl) (x:Cv):Cv:=match x with
 | .pv v _=>match cd v δ.kv with | true=> .un | false=>x
 | .fn _ caps=>match rJ caps δ.kv with | true=> .un | false=>x
 | .sw r=>match Soft.lk δ.mv r with
  | some (d,e,c)=> .nw d e c
  | none=>match cd r δ.kr with | true=> .un | false=>x
 | .sl r o n=>match Soft.lk δ.mv r with
  | some (d,e,c)=> .ns d e c o n
  | none=>match cd r δ.kr,cd r δ.ke with | false,false=>x | _,_=> .un
 | .pe r k a=>match Soft.lk δ.mv r with
  | some (d,e,c)=> .pn d e c k a
  | none=>match cd r δ.kr,cd r δ.ke with | false,false=>x | _,_=> .un
 | .nw r _ _ | .ns r _ _ _ _ | .pn r _ _ _ _=>match Soft.lk δ.mv r with
  | some _=> .un
  | none=>match cd r δ.kr,cd r δ.ke,cd r δ.kn with | false,false,false=>x | _,_,_=> .un
 | x=>x
def km (f:Cv->Cv):AV->AV
 | .c x=> .c (f x)
 | .a l=> .a (l.map f)
 | .t l=> .t (l.map fun p=>(p.1,p.2.map f))
 | .g p q v=> .g p q (km f v)
def IE (l:List (Nat×Row)):List (Nat×Option Row)->List (Nat×Row)
 | []=>l
 | (k,some row)::m=>IE (Soft.put l k row) m
 | (k,Option.none)::m=>IE (Wh k l) m
def OR (l:List (Nat×List Cv)):List (Nat×List Cv)->List (Nat×List Cv)
 | []=>l
 | (k,cs)::m=>OR (Soft.put l k cs) m
def Dl.quiet (δ:Dl):Bool:=match δ.mv,δ.kr,δ.ke,δ.kn,δ.kv with
 | [],[],[],[],[]=>true
 | _,_,_,_,_=>false
def St.app (s:St) (δ:Dl):St:=match δ.quiet with
 | true=>⟨s.tm,OR s.vs δ.vs,IE s.rs δ.rs⟩
 | false=>⟨s.tm.map fun p=>(p.1,km δ.map p.2),OR (s.vs.map fun p=>(p.1,p.2.map δ.map)) δ.vs,IE s.rs δ.rs⟩
structure Ab where
 ct:Ct
 mv:Option Nat
 sh:Option (Nat×Nat)
 lv:Nat
def Lk.eG (m:Lk) (x:Cv):Option Ab :=
 match x with
 | .b y=>some ⟨.b y,none,none,5⟩ | .i k n=>some ⟨.i k n,none,none,5⟩ | .s y=>some ⟨.s y,none,none,5⟩
 | .nl τ=>match τ.deep with | true=>none | false=>some ⟨.l τ [],none,none,5⟩
 | .sw r=>match m.r r with
  | some row=>match row.τ.deep with
   | true=>none
   | false=>match eu row.ow with
    | true=>some ⟨.l row.τ row.xs,some r,none,5⟩
    | false=>some ⟨.l row.τ row.xs,none,none,Re row.ow⟩
  | none=>none
 | x=>match (m.vw x).ct,x.row with
  | some (.l τ y),some r=>match τ.deep,m.r r with
   | false,some row=>match x.inner with
    | true=>match row.ow with
     | 5=>some ⟨.l τ y,none,some (r,4),4⟩
     | 4=>some ⟨.l τ y,none,none,4⟩
     | 3=>some ⟨.l τ y,none,none,4⟩
     | _=>some ⟨.l τ y,none,none,2⟩
    | false=>match eu row.ow with
     | true=>match nO 4 row.ow with
      | true=>some ⟨.l τ y,none,some (r,3),4⟩
      | false=>none
     | false=>some ⟨.l τ y,none,none,Re row.ow⟩
   | _,_=>none
  | _,_=>none
structure It where
 iD:List Ct
 mv:List (Nat×(Nat×Nat))
 sh:List (Nat×Nat)
 lv:Nat
def Lk.bS (m:Lk) (e:Nat):Nat->List Cv->Option It
 | _,[]=>some ⟨[],[],[],5⟩
 | c,x::l=>match m.eG x,m.bS e (c+1) l with
  | some a,some b=>some ⟨a.ct::b.iD,(match a.mv with | some r=>(r,(e,c))::b.mv | none=>b.mv),(match a.sh with | some p=>p::b.sh | none=>b.sh),min a.lv b.lv⟩
  | _,_=>none
def fB:List Nat->Bool
 | []=>true
 | x::l=>match cd x l with | true=>false | false=>fB l
def jr:List Nat->List Nat->Bool
 | [],_=>true
 | x::l,m=>match cd x m with | true=>false | false=>jr l m
def keys {α:Type}:List (Nat×α)->List Nat
 | []=>[]
 | (k,_)::l=>k::keys l
def Lk.share (m:Lk):List (Nat×Nat)->List (Nat×Option Row)
 | []=>[]
 | (r,w)::l=>match m.r r with
  | some row=>(r,some { row with ow:=w })::m.share l
  | none=>m.share l
def gone:List (Nat×(Nat×Nat))->List (Nat×Option Row)
 | []=>[]
 | (r,_)::l=>(r,none)::gone l
inductive Out | no | r0 (v:AV) | r (p:Bool) (v:AV) | w0 (v:AV) (δ:Dl) | w (p:Bool) (v:AV) (δ:Dl)
def Us (ag:Bool) (l:List Cv):AV:=match ag with
 | true=> .a l
 | false=>match l with | [x]=> .c x | _=> .c .un
def AV.cells:AV->Option (List Cv)
 | .c .un=>none
 | .c x=>some [x]
 | .a l=>some l
 | _=>none
def u8:AV:= .t []
def Uf (op:BinOp) (a b:Int):Option Bool:=match op with
 | .eql=>some (a==b) | .neq=>some (!(a==b)) | .lss=>some (decide (a<b)) | .leq=>some (decide (a<=b)) | .gtr=>some (decide (b<a)) | .geq=>some (decide (b<=a))
 | _=>none
def QA (a b:ByteArray):Bool:=Op.bytesLess a.toList b.toList
def Xz (op:BinOp) (a b:ByteArray):Option Bool:=match op with
 | .eql=>some (a==b) | .neq=>some (!(a==b)) | .lss=>some (QA a b) | .gtr=>some (QA b a) | .leq=>some (!(QA b a)) | .geq=>some (!(QA a b))
 | _=>none
def N1:Cv->Cv->Option Bool
 | .b x,.b y=>some (x==y)
 | .i _ x,.i _ y=>some (x==y)
 | .s x,.s y=>some (x==y)
 | _,_=>none
def yZ:List Cv->List Cv->Option Bool
 | [],[]=>some true
 | x::l,y::m=>match N1 x y,yZ l m with
  | some a,some b=>some (match l with | []=>a | _=>a&&b)
  | _,_=>none
 | _,_=>none
def LU:Ty->Ty->Bool
 | .int,.int | .bool,.bool | .byte,.byte | .str,.str | .slot,.slot | .inode,.inode | .block,.block | .dep,.dep | .node,.node | .event,.event=>true
 | _,_=>false
def mK (op:BinOp) (x y:AV):Out:=match x,y with
 | .c (.i k a),.c (.i k' b)=>match op with
  | .shl=> .r (decide (0<=b)) (.c (.i k (k.wrap (a*2 ^ (min b.toNat k.bits)))))
  | .shr=> .r (decide (0<=b)) (.c (.i k (a.fdiv (2 ^ (min b.toNat k.bits)))))
  | op=>match FE k k' with
   | false=> .no
   | true=>match op with
    | .add=> .r0 (.c (.i k (k.wrap (a+b)))) | .sub=> .r0 (.c (.i k (k.wrap (a-b)))) | .mul=> .r0 (.c (.i k (k.wrap (a*b))))
    | .quo=> .r (!(b==0)) (.c (.i k (k.wrap (a.tdiv b))))
    | .rem=> .r (!(b==0)) (.c (.i k (a.tmod b)))
    | .and=> .r0 (.c (.i k (k.wrap ((BitVec.ofInt k.bits a &&& BitVec.ofInt k.bits b).toNat))))
    | .or=> .r0 (.c (.i k (k.wrap ((BitVec.ofInt k.bits a ||| BitVec.ofInt k.bits b).toNat))))
    | .xor=> .r0 (.c (.i k (k.wrap ((BitVec.ofInt k.bits a ^^^ BitVec.ofInt k.bits b).toNat))))
    | op=>match Uf op a b with | some c=> .r0 (.c (.b c)) | none=> .no
 | .c (.s a),.c (.s b)=>match op with
  | .add=> .r (decide (a.size+b.size<=4611686018427387904)) (.c (.s (a++b)))
  | op=>match Xz op a b with | some c=> .r0 (.c (.b c)) | none=> .no
 | .c (.b a),.c (.b b)=>match op with
  | .eql=> .r0 (.c (.b (a==b))) | .neq=> .r0 (.c (.b (!(a==b)))) | _=> .no
 | .a l,.a m=>match op,yZ l m with
  | .eql,some c=> .r0 (.c (.b c)) | .neq,some c=> .r0 (.c (.b (!c))) | _,_=> .no
 | _,_=> .no
def XA (x:Bool) (u v:AV):AV:=match u,v with
 | .c (.b p),.c (.b q)=> .c (.b (bif x then p else q))
 | _,_=> .c .un
def bt (s:ByteArray) (i:Nat):Nat:=(s.data.getD i 0).toNat
def aZ (i:Int) (n:Nat):Bool:=decide (0<=i)&&decide (i<(n:Int))
def Lk.qo (m:Lk) (x:Cv) (i:Int) (z:Nat):Out:=match x with
 | .sw r=>match m.vw x with | .w τ xs=>(match Nat.beq (sz τ) z with | true=> .r (aZ i xs.length) (.c (.pe r i.toNat 0)) | false=> .no) | _=> .no
 | .sl r off len=>match m.vw x with | .p τ _ _ _=>(match Nat.beq (sz τ) z with | true=> .r (aZ i len) (.c (.pe r (off+i.toNat) 0)) | false=> .no) | _=> .no
 | .nw r e c=>match m.vw x with | .w τ xs=>(match Nat.beq (sz τ) z with | true=> .r (aZ i xs.length) (.c (.pn r e c i.toNat 0)) | false=> .no) | _=> .no
 | .ns r e c off len=>match m.vw x with | .p τ _ _ _=>(match Nat.beq (sz τ) z with | true=> .r (aZ i len) (.c (.pn r e c (off+i.toNat) 0)) | false=> .no) | _=> .no
 | .nl _=> .r false (.c .un)
 | _=> .no
def Iu (x:Cv) (n:Nat):Cv:=match x with
 | .pv v c=> .pv v (c+n) | .pe r e c=> .pe r e (c+n) | .pn r e c k d=> .pn r e c k (d+n) | _=> .un
def cT {α:Type} (l:List α) (c:Nat) (m:List α):List α:=l.take c++m++l.drop (c+m.length)
def jy:List Cv->Bool
 | []=>true
 | .b _::l | .i .. ::l | .s _::l=>jy l
 | _=>false
def Un (r:Nat):List (Nat×(Nat×Nat))->List (Nat×(Nat×Nat×Nat))
 | []=>[]
 | (k,(e,c))::l=>(k,(r,e,c))::Un r l
def Lk.store (m:Lk) (x:Cv) (vl:List Cv):Out:=match x with
 | .pv v c=>match m.v v with
  | some cs=>match Nat.ble (c+vl.length) cs.length with
   | true=> .w0 u8 { Dl.z with vs:=[(v,cT cs c vl)] }
   | false=> .no
  | none=> .no
 | .pe r e c=>match m.r r with
  | some row=>match eu row.ow,m.bS e c vl with
   | true,some a=>match Nat.ble (c+vl.length) (sz row.τ),rO row.τ (cT (row.cs e) c a.iD) with
    | true,some y=>match jy vl with
     | true=> .w (CC row.τ a.iD) u8 { Dl.z with rs:=[(r,some { row with xs:=row.xs.set e y })] }
     | false=>match fB (r::(keys a.mv++keys a.sh)) with
      | true=> .w (CC row.τ a.iD) u8 { Dl.z with mv:=Un r a.mv,kn:=[r],rs:=gone a.mv++(m.share a.sh++[(r,some { row with xs:=row.xs.set e y,ow:=min row.ow a.lv })]) }
      | false=> .no
    | _,_=> .no
   | _,_=> .no
  | none=> .no
 | .pn r e c k d=>match m.r r with
  | some row=>match Nat.beq row.ow 5,jy vl,m.iD vl with
   | true,true,some iD=>match nth (row.cs e) c with
    | some (.l τ ys)=>match Nat.ble (d+vl.length) (sz τ),rO τ (cT (cells τ (ys.getD k (cg τ))) d iD) with
     | true,some y=>match rO row.τ (cT (row.cs e) c [.l τ (ys.set k y)]) with
      | some z=> .w (CC τ iD) u8 { Dl.z with rs:=[(r,some { row with xs:=row.xs.set e z })] }
      | none=> .no
     | _,_=> .no
    | _=> .no
   | _,_,_=> .no
  | none=> .no
 | _=> .no
structure Xn (τ:Ty) where
 ys:List (El τ)
 mv:List (Nat×(Nat×Nat))
 sh:List (Nat×Nat)
 lv:Nat
 ok:Bool
def Lk.jZ (m:Lk) (τ:Ty):Nat->List (List Cv)->Option (Xn τ)
 | _,[]=>some ⟨[],[],[],5,true⟩
 | e,x::l=>match m.bS e 0 x,m.jZ τ (e+1) l with
  | some a,some b=>match rO τ a.iD with
   | some y=>some ⟨y::b.ys,a.mv++b.mv,a.sh++b.sh,min a.lv b.lv,CC τ a.iD&&b.ok⟩
   | none=>none
  | _,_=>none
def Na:Nat:=1099511627776
def Ai:(τ τ':Ty)->List (El τ')->List (El τ)->Option (List (El τ'))
 | .int,.int,xs,ys=>some (xs++ys) | .bool,.bool,xs,ys=>some (xs++ys) | .byte,.byte,xs,ys=>some (xs++ys) | .str,.str,xs,ys=>some (xs++ys)
 | .slot,.slot,xs,ys=>some (xs++ys) | .inode,.inode,xs,ys=>some (xs++ys) | .block,.block,xs,ys=>some (xs++ys) | .dep,.dep,xs,ys=>some (xs++ys)
 | .node,.node,xs,ys=>some (xs++ys) | .event,.event,xs,ys=>some (xs++ys) | _,_,_,_=>none
def V9 (a:Option Nat) (b:Nat):Bool:=match a with | some a=>(match Nat.beq a b with | true=>false | false=>true) | none=>true
structure Ap where
 gone:List Nat
 rs:List (Nat×Option Row)
 lv:Nat
def Lk.iS (m:Lk) (τ:Ty) (y:Cv):Ap:=match τ.deep,y.row with
 | true,some r=>match m.r r with
  | some row=>match row.ow with
   | 5=>(match y with
    | .sw _=>⟨[r],[(r,none)],5⟩
    | _=>⟨[],[(r,some { row with ow:=4 })],4⟩)
   | 4=>⟨[],[],4⟩
   | 3=>⟨[],[],4⟩
   | _=>⟨[],[],2⟩
  | none=>⟨[],[],2⟩
 | _,_=>⟨[],[],5⟩
def yP (r:Nat):Bool:=match Nat.ble 200000 r,Nat.ble r 299999 with | true,true=>false | _,_=>true
def Lk.append (m:Lk) (τ0:Ty) (d:Nat) (x y:Cv):Out :=
 match (m.vw y).ct with
 | some (.l τ ys)=>match LU τ τ0,m.iS τ y with
  | true,⟨g,sy,lv⟩=>match x with
   | .nl _=>match V9 y.row (d*64) with
    | true=> .w (Nat.ble ys.length Na) (.c (.sw (d*64))) { Dl.z with kr:=d*64::g,rs:=sy++[(d*64,some ⟨τ,ys,lv⟩)] }
    | false=> .no
   | .sw r=>match V9 y.row r&&yP r,m.r r with
    | true,some ⟨τ',xs,ow⟩=>match eu ow,Ai τ τ' xs ys with
     | true,some zs=> .w (Nat.ble zs.length Na) (.c (.sw r)) { Dl.z with kr:=r::g,rs:=sy++[(r,some ⟨τ',zs,min ow lv⟩)] }
     | _,_=> .no
    | _,_=> .no
   | _=> .no
  | _,_=> .no
 | _=> .no
def Lk.oG (m:Lk) (x:AV) (lo hi:Option Int):Out:=match x with
 | .c (.s a)=>match lo,hi with
  | none,none=> .r0 (.c (.s (a.extract 0 a.size)))
  | some l,none=> .r (decide (0<=l)&&decide (l<=(a.size:Int))) (.c (.s (a.extract l.toNat a.size)))
  | none,some h=> .r (decide (0<=h)&&decide (h<=(a.size:Int))) (.c (.s (a.extract 0 h.toNat)))
  | some l,some h=> .r (decide (0<=l)&&(decide (l<=h)&&decide (h<=(a.size:Int)))) (.c (.s (a.extract l.toNat h.toNat)))
 | .c x=>match (m.vw x).len with
  | none=> .no
  | some n =>
   let mk (l:Nat) (k:Nat):AV:=match x with
    | .sw r=> .c (.sl r l k) | .sl r off _=> .c (.sl r (off+l) k) | .nw r e c=> .c (.ns r e c l k) | .ns r e c off _=> .c (.ns r e c (off+l) k) | .nl τ=> .c (.nl τ) | _=> .c .un
   match lo,hi with
   | none,none=> .r0 (.c x)
   | some l,none=> .r (decide (0<=l)&&decide (l<=(n:Int))) (mk l.toNat (n-l.toNat))
   | none,some h=> .r (decide (0<=h)&&decide (h<=(n:Int))) (mk 0 h.toNat)
   | some l,some h=> .r (decide (0<=l)&&(decide (l<=h)&&decide (h<=(n:Int)))) (mk l.toNat (h.toNat-l.toNat))
 | _=> .no
def AV.int:AV->Option Int
 | .c (.i _ n)=>some n
 | _=>none
def IW (f:Operand->AV):Option Operand->Option (Option Int)
 | none=>some none
 | some o=>match (f o).int with | some n=>some (some n) | none=>none
def BA (X:Ctx) (t:TypeId) (f:Operand->AV):List (Nat×Operand)->List Cv->Option (List Cv)
 | [],acc=>some acc
 | (i,o)::l,acc=>match xR X.P t i,(f o).cells with
  | some off,some cs=>match Nat.ble (off+cs.length) acc.length,Nat.beq cs.length (fV X.P (Co X.P t i)) with
   | true,true=>BA X t f l (cT acc off cs)
   | _,_=>none
  | _,_=>none
def partsOf (f:Operand->AV) (z:Nat):Nat->List (Nat×Operand)->Option (List (List Cv))
 | _,[]=>some []
 | n,(i,o)::l=>match Nat.beq i n,(f o).cells,partsOf f z (n+1) l with
  | true,some cs,some r=>match Nat.beq cs.length z with | true=>some (cs::r) | false=>none
  | _,_,_=>none
def xI (f:Operand->AV):List Operand->Option (List Nat)
 | []=>some []
 | o::l=>match f o,xI f l with
  | .c (.pv v 0),some r=>some (v::r)
  | _,_=>none
def bytesOf:Vw->Option (List UInt8)
 | .w .byte xs=>some xs
 | .p .byte xs off len=>some (sub xs off len)
 | _=>none
def AI (P:Program) (t:TypeId):Nat:=match Pr P t with | some e=>fV P e | none=>0
def isStr (P:Program) (t:TypeId):Bool:=match P.underlying t with | some .string=>true | _=>false
def Gy (P:Program) (t:TypeId):Bool:=match P.underlying t with | some (.slice _)=>true | _=>false
def Vw.ty:Vw->Option Ty
 | .no=>none | .w τ _=>some τ | .p τ _ _ _=>some τ
def Lk.jX (m:Lk) (P:Program) (t:TypeId):AV->Bool
 | .c (.s _)=>isStr P t
 | .c x=>match (m.vw x).ty with | some τ=>Nat.beq (sz τ) (AI P t) | none=>false
 | _=>false
def KB:Ct->Cv->Bool
 | .b _,.b _=>true
 | .i k _,.i k' _=>FE k k'
 | .s _,.s _=>true
 | _,_=>false
def mY:List Ct->List Cv->Bool
 | [],[]=>true
 | c::l,x::m=>KB c x&&mY l m
 | _,_=>false
def Ctx.Em (X:Ctx) (op:BinOp) (t:TypeId) (x y:AV):Out:=match x,y with
 | .c (.b a),y'=>match X.P.underlying t with | some .bool=>mK op (.c (.b a)) y' | _=> .no
 | .a l,y'=>match lk X.eqs t,y' with
  | some ks,.a m=>match mY ks l&&mY ks m with | true=>mK op (.a l) (.a m) | false=> .no
  | _,_=> .no
 | x',y'=>mK op x' y'
def Wd (op:UnOp) (x:AV):Out:=match op,x with
 | .not,.c (.b b)=> .r0 (.c (.b (!b)))
 | .neg,.c (.i k n)=> .r0 (.c (.i k (k.wrap (0-n))))
 | _,_=> .no
def Ctx.KC (X:Ctx) (m:Lk) (t u:TypeId) (x:AV):Out:=match X.P.underlying t,X.P.underlying u,x with
 | some _,some (.int k),.c (.i _ n)=> .r0 (.c (.i k (k.wrap n)))
 | some (.slice e),some .string,.c a=>match bytesOf (m.vw a),X.P.underlying e with
  | some xs,some (.int .u8)=> .r0 (.c (.s ⟨xs.toArray⟩))
  | _,_=> .no
 | _,_,_=> .no
def NY (b:Bool):Option Nat->Out
 | some n=>match b with | true=> .r0 (.c (.i .i64 n)) | false=> .no
 | none=> .no
def Ctx.H2 (X:Ctx) (m:Lk) (t:TypeId):AV->Out
 | .c (.s a)=>match isStr X.P t with | true=> .r0 (.c (.i .i64 a.size)) | false=> .no
 | .c a=>NY (Gy X.P t) (m.vw a).len
 | _=> .no
def V8 (f:Int->Int->Int) (x y:AV):Out:=match x,y with
 | .c (.i k a),.c (.i k' b)=>(match FE k k' with | true=> .r0 (.c (.i k (f a b))) | false=> .no)
 | _,_=> .no
def Ctx.Va (X:Ctx) (m:Lk) (d:Nat) (t u:TypeId) (x y:AV):Out:=match X.lE t,Nat.beq t u,x,y with
 | some τ,true,.c a,.c b=>m.append τ d a b
 | _,_,_,_=> .no
def Ctx.sD (X:Ctx) (m:Lk) (t:TypeId) (x:AV):Out:=match x,X.lE t with
 | .c (.sl r off len),some τ=>match m.r r with
  | some row=>match eu row.ow&&LU row.τ τ,row.τ.deep&&Nat.beq row.ow 5 with
   | true,false=> .w0 u8 { Dl.z with kn:=[r],rs:=[(r,some { row with xs:=row.xs.take off++(List.replicate len (cg row.τ)++row.xs.drop (off+len)) })] }
   | _,_=> .no
  | none=> .no
 | _,_=> .no
def Lk.dst (m:Lk):Cv->Option (Nat×Row×Nat×Nat)
 | .sw r=>match m.r r with | some row=>some (r,row,0,row.xs.length) | none=>none
 | .sl r off len=>match m.r r with | some row=>some (r,row,off,len) | none=>none
 | _=>none
def QU:Ty->Bool
 | .int | .bool | .byte | .str=>true
 | _=>false
def Ctx.uG (X:Ctx) (m:Lk) (t:TypeId) (x y:AV):Out:=match x,y,X.lE t with
 | .c a,.c b,some τ=>match m.dst a,(m.vw b).ct with
  | some (r,row,off,len),some (.l σ ys)=>match eu row.ow&&(LU row.τ τ&&QU τ),Ai σ row.τ (row.xs.take off) (ys.take (min ys.length len)) with
   | true,some zs=> .w0 (.c (.i .i64 (min ys.length len:Nat))) { Dl.z with kn:=[r],rs:=[(r,some { row with xs:=zs++row.xs.drop (off+min ys.length len) })] }
   | _,_=> .no
  | _,_=> .no
 | _,_,_=> .no
def bY (X:Ctx) (evp:List (Nat×Bool)->TypeId->Operand->AV) (m:Lk) (d:Nat) (ty:TypeId) (op:Op):Out :=
 let ev:=evp []
 match op with
 | .move x | .assign x=> .r0 (ev ty x)
 | .pick c a b=>match c with
  | .tmp t=>match ev ty c with
   | .c (.b x)=> .r0 (XA x (evp [(t,true)] ty a) (evp [(t,false)] ty b))
   | _=> .no
  | _=> .no
 | .alloc t=>match X.zero t with
  | some cs=> .w0 (.c (.pv (1000+d) 0)) { Dl.z with kv:=[1000+d],vs:=[(1000+d,cs)] }
  | none=> .no
 | .box t x=>match (ev t x).cells with
  | some cs=>match Nat.beq cs.length (fV X.P t) with
   | true=> .w0 (.c (.pv (1000+d) 0)) { Dl.z with kv:=[1000+d],vs:=[(1000+d,rP (Dl.map { Dl.z with kv:=[1000+d] }) cs)] }
   | false=> .no
  | none=> .no
 | .build t parts=>match X.zero t,Rk X.P t with
  | some zs,true=>match BA X t (ev ty) parts.toList zs with
   | some cs=> .r0 (.a cs)
   | none=> .no
  | _,_=> .no
 | .buildSlice t n parts=>match X.lE t with
  | none=> .no
  | some τ=>match Nat.beq parts.size n&&Nat.ble (n*sz τ) 16777216,partsOf (ev ty) (sz τ) 0 parts.toList with
   | true,some pss=>match m.jZ τ 0 pss with
    | some b=>match fB (d*64::(keys b.mv++keys b.sh)) with
     | true =>
      let δ:Dl:={ Dl.z with kr:=d*64::keys b.mv,rs:=gone b.mv++(m.share b.sh++[(d*64,some ⟨τ,b.ys,b.lv⟩)]) }
      match τ.isByte with
      | true=> .w b.ok (.c (.sw (d*64))) δ
      | false=> .w0 (.c (.sw (d*64))) δ
     | false=> .no
    | none=> .no
   | _,_=> .no
 | .load t x=>match ev ty x with
  | .c a=>match m.from a with
   | some cs=>match Nat.ble (fV X.P t) cs.length&&CI X.P t with
    | true=> .r0 (Us (BL X.P t) (cs.take (fV X.P t)))
    | false=> .no
   | none=> .no
  | _=> .no
 | .store t x v=>match ev ty x,(ev t v).cells with
  | .c a,some cs=>match Nat.beq cs.length (fV X.P t)&&Nat.ble 1 cs.length with
   | true=>m.store a cs
   | false=> .no
  | _,_=> .no
 | .nilCheck x=>match ev ty x with
  | .c (.pv v c)=> .r0 (.c (.pv v c)) | .c (.pe r e c)=> .r0 (.c (.pe r e c)) | .c (.pn r e c k d)=> .r0 (.c (.pn r e c k d))
  | _=> .no
 | .binOp op t x y _=>X.Em op t (ev t x) (ev t y)
 | .unOp op t x=>Wd op (ev t x)
 | .convert t u x=>X.KC m t u (ev t x)
 | .makeFunc (.func f) first caps=>match first.size,xI (ev ty) caps.toList with
  | 0,some vs=> .r0 (.c (.fn f vs))
  | _,_=> .no
 | .makeSlice t n c=>match X.lE t,(ev ty n).int,(ev ty c).int with
  | some τ,some a,some b=> .w ((a==b)&&(decide (0<=a)&&Nat.ble a.toNat Na)) (.c (.sw (d*64)))
    { Dl.z with kr:=[d*64],rs:=[(d*64,some ⟨τ,List.replicate a.toNat (cg τ),5⟩)] }
  | _,_,_=> .no
 | .slice t x lo hi mx=>match mx,IW (ev ty) lo,IW (ev ty) hi with
  | none,some l,some h=>match m.jX X.P t (ev t x) with
   | true=>m.oG (ev t x) l h
   | false=> .no
  | _,_,_=> .no
 | .fieldAddr t x f=>match ev ty x,xR X.P t f,Nat.beq (fV X.P (Co X.P t f)) 0 with
  | .c a,some n,false=>match Iu a n with | .un=> .no | a=> .r0 (.c a)
  | _,_,_=> .no
 | .field t x f=>match ev t x,xR X.P t f with
  | .a l,some n=>match Nat.ble (n+fV X.P (Co X.P t f)) l.length&&CI X.P (Co X.P t f) with
   | true=> .r0 (Us (BL X.P (Co X.P t f)) ((l.drop n).take (fV X.P (Co X.P t f))))
   | false=> .no
  | _,_=> .no
 | .indexAddr t x i=>match ev t x,(ev ty i).int with
  | .c a,some n=>m.qo a n (AI X.P t)
  | _,_=> .no
 | .index t x i=>match ev t x,(ev ty i).int with
  | .c (.s a),some n=>match isStr X.P t with
   | true=> .r (aZ n a.size) (.c (.i .u8 (bt a n.toNat)))
   | false=> .no
  | _,_=> .no
 | .extract x i=>match ev ty x with
  | .t l=>match nth l i with | some (b,cs)=> .r0 (Us b cs) | none=> .no
  | _=> .no
 | .call { callee:= .builtin b,args,argTypes }=>match b,args.toList,argTypes.toList with
  | .len,[x],[t]=>X.H2 m t (ev t x)
  | .append,[x,y],[t,u]=>X.Va m d t u (ev t x) (ev t y)
  | .clear,[x],[t]=>X.sD m t (ev t x)
  | .copy,[x,y],[t,u]=>X.uG m t (ev t x) (ev u y)
  | .max,[x,y],_=>V8 max (ev ty x) (ev ty y)
  | .min,[x,y],_=>V8 min (ev ty x) (ev ty y)
  | _,_,_=> .no
 | _=> .no
inductive AC
 | c (x:Ct) | a (l:List Ct) | p (k:Nat) | f (g:Nat) (ks:List Nat) | al (k c:Nat) | io (τ:Ty) (xs:List (El τ))
inductive Rc
 | c (x:Ct) | m (x:Ct) | al (p j e c:Nat) | aw (p j:Nat) | un
inductive RC
 | c (x:Rc) | a (l:List Rc) | t (l:List (Bool×List Rc)) | np (l:List Rc) | u
structure CR where
 res:RC
 vo:List (List Ct)
 io:List Ct
structure tE where
 am:List Nat
 vl:List (List Nat)
 rl:List (List Nat)
 dr:RC
def hd (l:List Nat):Nat:=match l with | []=>0 | x::_=>x
def nK {α:Type} (l:List (List α)):List α:=match l with | []=>[] | x::_=>x
def tl {α:Type} (l:List α):List α:=match l with | []=>[] | _::l=>l
def mZ (v:Nat):Nat->List Nat->Option Nat
 | _,[]=>none
 | n,w::l=>match Nat.beq w v with | true=>some n | false=>mZ v (n+1) l
def LY (κ:List Nat) (v:Nat):Nat×List Nat:=match mZ v 0 κ with
 | some k=>(k,κ)
 | none=>(κ.length,κ++[v])
def BP (κ:List Nat):List Nat->List Nat×List Nat
 | []=>([],κ)
 | v::l=>match LY κ v with
  | (k,κ1)=>match BP κ1 l with
   | (ks,κ2)=>(k::ks,κ2)
def wG (r:Nat):Nat->List Cv->Option Nat
 | _,[]=>none
 | n,.sw r'::l=>match Nat.beq r' r with | true=>some n | false=>wG r (n+1) l
 | n,_::l=>wG r (n+1) l
structure AR where
 cb:List AC
 κ:List Nat
 gone:List Nat
 io:List Nat
 fz:List Nat
 mW:List Nat
 lr:Bool
def Lk.L2 (m:Lk) (x:Cv):Bool:=match x.row with
 | some r=>match m.r r with
  | some row=>(match row.ow with | 1=>true | 3=>true | _=>false)
  | none=>false
 | none=>true
def Lk.Ml (m:Lk):List Cv->Bool
 | []=>true
 | x::l=>match m.L2 x with | true=>m.Ml l | false=>false
def EO:List Cv->List Nat
 | []=>[]
 | x::l=>match x.row with | some r=>r::EO l | none=>EO l
def Lk.owned (m:Lk) (w:Nat):List Cv->Option (List Nat)
 | []=>some []
 | .sw r::l=>match m.r r,m.owned w l with
  | some row,some k=>match nO w row.ow with | true=>some (r::k) | false=>none
  | _,_=>none
 | .nl _::l | .b _::l | .i .. ::l | .s _::l=>m.owned w l
 | _=>none
def sE (x:AC) (g:List Nat) (io fz mW:List Nat) (b:Bool) (q:Option AR):Option AR:=match q with
 | some q=>some ⟨x::q.cb,q.κ,g++q.gone,io++q.io,fz++q.fz,mW++q.mW,match b with | true=>q.lr | false=>false⟩
 | none=>none
def mQ:Ct->Ct
 | .l .. => .u
 | x=>x
def GG:AC->AC
 | .a l=> .a (rP mQ l)
 | .c x=> .c (mQ x)
 | x=>x
def Lk.OG (m:Lk) (w:Nat) (cs:List Cv) (x:AC) (q:Option AR):Option AR:=match w with
 | 0=>sE x [] [] [] (EO cs) (m.Ml cs) q
 | 7=>sE (GG x) [] [] [] [] true q
 | w=>match rL w,m.owned w cs with
  | true,some g=>match w with
   | 3=>sE x [] [] g [] true q
   | _=>sE x g [] [] [] false q
  | _,_=>none
def Lk.WT (m:Lk) (x:Cv) (q:Option AR):Option AR:=match x with
 | .sw r=>match m.r r with
  | some row=>match Nat.beq row.ow 5 with
   | true=>sE (.io row.τ row.xs) [] [r] [] [] false q
   | false=>none
  | none=>none
 | _=>none
def Lk.WK (m:Lk) (x:Cv) (κ:List Nat) (q:Option AR):Option AR:=match x,κ with
 | .sw r,v::_=>match m.v v with
  | some cs=>match wG r 0 cs with
   | some c=>sE (.al 0 c) [] [] [] [] false q
   | none=>none
  | none=>none
 | _,_=>none
def Lk.Uu (m:Lk) (w:Nat) (x:Cv) (κ:List Nat) (q:Option AR):Option AR:=match w with
 | 9=>m.WT x q
 | 8=>m.WK x κ q
 | w=>match m.ct x with
  | some y=>m.OG w [x] (.c y) q
  | none=>none
def Lk.args (m:Lk):List Nat->List AV->List Nat->Option AR
 | _,[],κ=>some ⟨[],κ,[],[],[],[],true⟩
 | am,v::l,κ=>match v with
  | .c (.pv v 0)=>match LY κ v with
   | (k,κ1)=>sE (.p k) [] [] [] [] false (m.args (tl am) l κ1)
  | .c (.fn f caps)=>match BP κ caps with
   | (ks,κ1)=>sE (.f f ks) [] [] [] [] false (m.args (tl am) l κ1)
  | .a cs=>match Nat.ble cs.length 63,m.iD cs with
   | true,some ys=>m.OG (hd am) cs (.a ys) (m.args (tl am) l κ)
   | _,_=>none
  | .c x=>m.Uu (hd am) x κ (m.args (tl am) l κ)
  | _=>none
def Lk.uw (m:Lk):List (List Nat)->List Nat->Option (List (List Ct))
 | _,[]=>some []
 | vl,v::l=>match m.v v with
  | some cs=>match Nat.ble cs.length 63,m.iD cs,m.uw (tl vl) l with
   | true,some a,some b=>some (a::b)
   | _,_,_=>none
  | none=>none
def kf:Ct->Option Cv
 | .u=>some .un | .b x=>some (.b x) | .i k n=>some (.i k n) | .s x=>some (.s x) | .l .. =>none
def Lk.ku (m:Lk):List Nat->List Cv->Option (List Nat×List Nat)
 | _,[]=>some ([],[])
 | ms,x::l=>match m.ku (tl ms) l with
  | none=>none
  | some (k,b)=>match hd ms with
   | 0=>match x.row with | some r=>some (k,r::b) | none=>some (k,b)
   | 1=>match x.row with | some r=>some (k,r::b) | none=>some (k,b)
   | w=>match x with
    | .sw r=>match m.r r with
     | some row=>match rL w&&yP r,nO w row.ow with | true,true=>some (r::k,b) | _,_=>none
     | none=>none
    | .nl _=>match rL w with | true=>some (k,b) | false=>none
    | _=>none
def Lk.eH (m:Lk):List (List Nat)->List Nat->Option (List Nat×List Nat)
 | _,[]=>some ([],[])
 | vl,v::l=>match m.v v with
  | some cs=>match m.ku (nK vl) cs,m.eH (tl vl) l with
   | some (a,b),some (a',b')=>some (a++a',b++b')
   | _,_=>none
  | none=>none
def Lk.s9 (m:Lk) (g:tE) (ar:AR):Option (List Nat×List Nat):=match m.eH g.vl ar.κ with
 | none=>none
 | some (ow,b) =>
  match fB (ar.gone++(ow++ar.io)),jr ar.fz (ar.gone++(ow++ar.io)),jr ar.mW (ar.gone++(ow++ar.io)),jr b (ar.gone++(ow++ar.io)) with
  | true,true,true,true=>some (ow,b)
  | _,_,_,_=>none
def dT (f:Cv->Cv) (v:Nat):Nat->List Nat->List Cv->List Ct->Option (List Cv×List (Nat×Row))
 | _,_,[],[]=>some ([],[])
 | j,ms,c::cs,y::ys=>match dT f v (j+1) (tl ms) cs ys with
  | none=>none
  | some (cs',rs')=>match hd ms with
   | 0=>match kf y with | some x=>some (x::cs',rs') | none=>none
   | 1=>some (f c::cs',rs')
   | w=>match y with
    | .l τ xs=>match c with
     | .sw r=>some (.sw r::cs',(r,⟨τ,xs,w⟩)::rs')
     | _=>some (.sw (1000000+v*64+j)::cs',(1000000+v*64+j,⟨τ,xs,w⟩)::rs')
    | _=>none
 | _,_,_,_=>none
def Lk.fU (m:Lk) (f:Cv->Cv):List (List Nat)->List Nat->List (List Ct)->Option (List (Nat×List Cv)×List (Nat×Row))
 | _,[],[]=>some ([],[])
 | vl,v::κ,l::vo=>match m.v v with
  | some cs=>match dT f v 0 (nK vl) cs l,m.fU f (tl vl) κ vo with
   | some (a,r),some (b,q)=>some ((v,a)::b,r++q)
   | _,_=>none
  | none=>none
 | _,_,_=>none
def Lk.nk (m:Lk):List Nat->List Ct->Option (List (Nat×Row))
 | [],[]=>some []
 | r::l,.l τ xs::y=>match m.r r,m.nk l y with
  | some row,some q=>match LU row.τ τ with
   | true=>some ((r,⟨τ,xs,row.ow⟩)::q)
   | false=>none
  | _,_=>none
 | _,_=>none
def QZ (as:List AV) (p j:Nat):Option Cv:=match nth as p with
 | some (.c x)=>match j with | 0=>some x | _=>none
 | some (.a l)=>nth l j
 | _=>none
def pE (as:List AV):Rc->Option Cv
 | .aw p j=>QZ as p j
 | .al p j e c=>match QZ as p j with
  | some (.sw r)=>some (.nw r e c)
  | some (.sl r off _)=>some (.nw r (off+e) c)
  | _=>some .un
 | .un=>some .un
 | .c _=>none
 | .m _=>none
def w5 (w:Nat):Nat:=match w with | 6=>5 | w=>w
def kK (f:Cv->Cv) (as:List AV) (lr:Bool):Nat->List Nat->List Rc->Option (List Cv×List (Nat×Row))
 | _,_,[]=>some ([],[])
 | k,ms,y::ys=>match kK f as lr (k+1) (tl ms) ys with
  | none=>none
  | some (cs,rs)=>match y with
   | .m (.l τ xs)=>(match lr with
    | true=>some (.sw k::cs,(k,⟨τ,xs,1⟩)::rs)
    | false=>some (.un::cs,rs))
   | .m y=>match kf y with | some x=>some (x::cs,rs) | none=>none
   | .c (.l τ xs)=>some (.sw k::cs,(k,⟨τ,xs,w5 (hd ms)⟩)::rs)
   | .c y=>match kf y with | some x=>some (x::cs,rs) | none=>none
   | y=>match pE as y with | some x=>some (f x::cs,rs) | none=>none
def rE (f:Cv->Cv) (as:List AV) (lr:Bool):Nat->List (List Nat)->List (Bool×List Rc)->Option (List (Bool×List Cv)×List (Nat×Row))
 | _,_,[]=>some ([],[])
 | k,ms,(b,l)::ys=>match kK f as lr k (nK ms) l,rE f as lr (k+l.length) (tl ms) ys with
  | some (cs,rs),some (ts,rs')=>some ((b,cs)::ts,rs++rs')
  | _,_=>none
def vW (f:Cv->Cv) (as:List AV) (lr:Bool) (rl:List (List Nat)) (d:Nat):RC->Option (AV×List (Nat×Row)×List (Nat×List Cv))
 | .u=>some (.t [],[],[])
 | .c x=>match kK f as lr (d*64) (nK rl) [x] with
  | some ([c],rs)=>some (.c c,rs,[])
  | _=>none
 | .a l=>match kK f as lr (d*64) (nK rl) l with
  | some (cs,rs)=>some (.a cs,rs,[])
  | none=>none
 | .t l=>match rE f as lr (d*64) rl l with
  | some (ts,rs)=>some (.t ts,rs,[])
  | none=>none
 | .np l=>match kK f as lr (d*64) (nK rl) l with
  | some (cs,rs)=>some (.c (.pv (1000+d) 0),rs,[(1000+d,cs)])
  | none=>none
def Mq:List Rc->Nat
 | []=>0
 | _::l=>Mq l+1
def LO:List (Bool×List Rc)->Nat
 | []=>0
 | (_,l)::m=>Mq l+LO m
def UT:Nat->Nat->List Nat
 | _,0=>[]
 | k,n+1=>k::UT (k+1) n
def RC.keys (d:Nat):RC->List Nat
 | .u=>[] | .c _=>[d*64] | .a l=>UT (d*64) (Mq l) | .t l=>UT (d*64) (LO l) | .np l=>UT (d*64) (Mq l)
def homes (v:Nat):Nat->List Cv->List Nat
 | _,[]=>[]
 | j,_::l=>(1000000+v*64+j)::homes v (j+1) l
def Lk.la (m:Lk):List Nat->List Nat
 | []=>[]
 | v::l=>(match m.v v with | some cs=>homes v 0 cs | none=>[])++m.la l
def mC:List (Nat×Row)->List (Nat×Option Row)
 | []=>[]
 | (k,r)::l=>(k,some r)::mC l
def Az:List Nat->List (Nat×Option Row)
 | []=>[]
 | k::l=>(k,none)::Az l
def Lk.Th (m:Lk):List Nat->List (Nat×Option Row)
 | []=>[]
 | r::l=>match m.r r with | some row=>(r,some { row with ow:=3 })::m.Th l | none=>m.Th l
def RC.kv (d:Nat):RC->List Nat
 | .np _=>[1000+d]
 | _=>[]
def Lk.V7 (m:Lk) (ar:AR) (res:RC) (ow:List Nat) (d:Nat):Dl:=⟨[],ar.gone++(ow++(res.keys d++m.la ar.κ)),ar.io,[],res.kv d,[],[]⟩
def s6 (n:Nat):List Nat->Bool
 | []=>true
 | x::l=>Nat.blt x n&&s6 n l
def Lk.after (m:Lk) (g:tE) (as:List AV) (ar:AR) (cr:CR) (ow:List Nat) (d:Nat):Option (AV×Dl) :=
  match m.fU (m.V7 ar cr.res ow d).map g.vl ar.κ cr.vo,m.nk ar.io cr.io,vW (m.V7 ar cr.res ow d).map as ar.lr g.rl d cr.res with
   | some (vs,r1),some r2,some (v,r3,vn) =>
    match fB (ar.gone++(keys r1++(keys r2++keys r3)))&&s6 100000 (cr.res.keys d),jr ar.fz (keys r1++(keys r2++keys r3)) with
    | true,true=>some (v,{ m.V7 ar cr.res ow d with vs:=vs++vn,rs:=Az ar.gone++(m.Th ar.fz++(mC r1++(mC r2++mC r3))) })
    | _,_=>none
   | _,_,_=>none
abbrev zi (R:Type):=List AC->List (List Ct)->(CR->Option R)->Option R
structure Env (R:Type) where
 sg:Nat->Option tE
 fn:Nat->zi R
inductive Ex | normal | exit (id:Nat) | ret
def xK (ops:Array Oper) (s:St):Option (Nat×Bool)->Option (List (Nat×Bool)×Bool)
 | none=>some ([],true)
 | some (j,w)=>match ops[j]? with
  | none=>none
  | some o=>match o.dst with
   | none=>none
   | some t=>match s.get t with
    | .c (.b x)=>some ([(t,w)],match w with | true=>x | false=> !x)
    | .g p q (.c (.b x))=>some (p++[(t,w)],q&&(match w with | true=>x | false=> !x))
    | _=>none
def uS:AV->AV
 | .g .. => .c .un
 | v=>v
def gd (p:List (Nat×Bool)) (q:Bool) (v:AV):AV:=match p with | []=>uS v | _=> .g p q v
def ck (p:List (Nat×Bool)) (q c:Bool):Bool:=match p with | []=>c | _=> !q||c
def aJ {R:Type} (c:Bool) (k:Option R):Option R:=bif c then k else none
def NH (q:Bool):Ct->Ct->Option Ct
 | .u,.u=>some .u
 | .b x,.b y=>some (.b (bif q then x else y))
 | .i k x,.i k' y=>match FE k k' with | true=>some (.i k (bif q then x else y)) | false=>none
 | .s x,.s y=>some (.s (bif q then x else y))
 | .l τ x,.l σ y=>match Ai σ τ [] y with | some z=>some (.l τ (bif q then x else z)) | none=>none
 | _,_=>none
def G5 (q:Bool):List Ct->List Ct->Option (List Ct)
 | [],[]=>some []
 | x::l,y::m=>match NH q x y,G5 q l m with | some a,some b=>some (a::b) | _,_=>none
 | _,_=>none
def Ks (q:Bool):List (List Ct)->List (List Ct)->Option (List (List Ct))
 | [],[]=>some []
 | x::l,y::m=>match G5 q x y,Ks q l m with | some a,some b=>some (a::b) | _,_=>none
 | _,_=>none
def JL (q:Bool):Rc->Rc->Option Rc
 | .c x,.c y=>match NH q x y with | some z=>some (.c z) | none=>none
 | .m x,.m y=>match NH q x y with | some z=>some (.m z) | none=>none
 | .un,.un=>some .un
 | _,_=>none
def BB (q:Bool):List Rc->List Rc->Option (List Rc)
 | [],[]=>some []
 | x::l,y::m=>match JL q x y,BB q l m with | some a,some b=>some (a::b) | _,_=>none
 | _,_=>none
def Ea (q:Bool):List (Bool×List Rc)->List (Bool×List Rc)->Option (List (Bool×List Rc))
 | [],[]=>some []
 | (b,x)::l,(c,y)::m=>match (match b,c with | true,true | false,false=>true | _,_=>false),BB q x y,Ea q l m with | true,some u,some v=>some ((b,u)::v) | _,_,_=>none
 | _,_=>none
def Oi (q:Bool):RC->RC->Option RC
 | .u,.u=>some .u
 | .c x,.c y=>match JL q x y with | some z=>some (.c z) | none=>none
 | .a x,.a y=>match BB q x y with | some z=>some (.a z) | none=>none
 | .t x,.t y=>match Ea q x y with | some z=>some (.t z) | none=>none
 | _,_=>none
def Ij (q:Bool) (x y:CR):Option CR:=match Oi q x.res y.res,Ks q x.vo y.vo,G5 q x.io y.io with
 | some a,some b,some c=>some ⟨a,b,c⟩
 | _,_,_=>none
abbrev Dq {R:Type} (p:List (Nat×Bool)) (q:Bool) (f:(CR->Option R)->Option R) (d:CR) (k:CR->Option R):Option R:=match p with
 | []=>f k
 | _=>f fun cr=>match Ij q cr d with | some c=>k c | none=>none
def Lk.EW (m:Lk):List Nat->List Ct
 | []=>[]
 | r::l=>match m.r r with | some row=> .l row.τ row.xs::m.EW l | none=>m.EW l
def Cv.rk (x:Cv):List Nat:=match x.row with | some r=>[r] | none=>[]
def Cv.vk:Cv->List Nat
 | .pv v _=>[v] | .fn _ l=>l | _=>[]
def vg:List Cv->List Nat
 | []=>[]
 | x::l=>x.rk++vg l
def vB:List Cv->List Nat
 | []=>[]
 | x::l=>x.vk++vB l
def OW:List (Bool×List Cv)->List Cv
 | []=>[]
 | (_,l)::m=>l++OW m
def AV.Cz:AV->List Cv
 | .c x=>[x] | .a l=>l | .t l=>OW l | .g _ _ v=>v.Cz
structure Fp where
 d:Option Nat
 rt:List Nat
 wt:List Nat
 rr:List Nat
 rv:List Nat
 wr:List Nat
 wv:List Nat
 pm:List Nat
 kw:List Nat
def opT:List Operand->List Nat
 | []=>[]
 | .tmp t::l=>t::opT l
 | _::l=>opT l
def I7:List AV->List Nat
 | []=>[]
 | v::l=>vg v.Cz++I7 l
def Ie:List AV->List Nat
 | []=>[]
 | v::l=>vB v.Cz++Ie l
def Lk.rowsOf (m:Lk):List Nat->List Nat
 | []=>[]
 | v::l=>(match m.v v with | some cs=>vg cs | none=>[])++m.rowsOf l
def vcs:List (Nat×List Cv)->List Cv
 | []=>[]
 | (_,l)::m=>l++vcs m
def UQ (ops:Array Oper):Option (Nat×Bool)->List Nat
 | none=>[]
 | some (j,_)=>match ops[j]? with | some o=>(match o.dst with | some t=>[t] | none=>[]) | none=>[]
def Uv (as:List AV):List Nat:=Ie as
def Up (s:St) (as:List AV):List Nat:=I7 as++s.lk.rowsOf (Ie as)
def Sd (ops:Array Oper) (o:Oper):List Nat:=opT o.op.operands.toList++UQ ops o.guard
def BM {α:Type} (ks:List Nat):List (Nat×α)->List (Nat×α)
 | []=>[]
 | (k,v)::l=>match cd k ks with | true=>(k,v)::BM ks l | false=>BM ks l
def Xr:Op->Bool
 | .move _=>false
 | .assign _=>false
 | _=>true
def Hg (ops:Array Oper) (s:St) (o:Oper):List AV:=rP s.get (Sd ops o)
def wy (ops:Array Oper) (s:St) (o:Oper):List AV:=match Xr o.op with | true=>Hg ops s o | false=>[]
def St.cut (s:St) (ops:Array Oper) (o:Oper):St:=⟨BM (Sd ops o) s.tm,BM (Uv (wy ops s o)) s.vs,BM (Up s (wy ops s o)) s.rs⟩
def Lk.varsOf (m:Lk):List Nat->List Nat
 | []=>[]
 | v::l=>(match m.v v with | some cs=>vB cs | none=>[])++m.varsOf l
def Pn (R V:List Nat):List (Nat×AV)->List Nat
 | []=>[]
 | (t,v)::l=>match rJ (vg v.Cz) R,rJ (vB v.Cz) V with | false,false=>Pn R V l | _,_=>t::Pn R V l
def OE (R V:List Nat):List (Nat×List Cv)->List Nat
 | []=>[]
 | (k,cs)::l=>match rJ (vg cs) R,rJ (vB cs) V with | false,false=>OE R V l | _,_=>k::OE R V l
def Dl.jY (δ:Dl):List Nat:=keys δ.mv++(δ.kr++(δ.ke++δ.kn))
def Ri:List (Nat×(Nat×Nat×Nat))->List Nat
 | []=>[]
 | (_,(d,_))::l=>d::Ri l
def iY (ops:Array Oper) (s:St) (o:Oper) (v:AV) (δ:Dl):Fp :=
 ⟨o.dst,Sd ops o,(match δ.quiet with | true=>[] | false=>Pn δ.jY δ.kv s.tm),
  I7 (Hg ops s o)++(Up s (wy ops s o)++(vg v.Cz++vg (vcs δ.vs))),Uv (wy ops s o),
  Ri δ.mv++(δ.jY++keys δ.rs),δ.kv++((match δ.quiet with | true=>[] | false=>OE δ.jY δ.kv s.vs)++keys δ.vs),
  Ie (Hg ops s o)++(s.lk.varsOf (Ie (wy ops s o))++(vB v.Cz++vB (vcs δ.vs))),δ.kv⟩
def Km (a:Option Nat) (l:List Nat):Bool:=match a with | some t=>(match cd t l with | true=>false | false=>true) | none=>true
def apart (a b:Fp):Bool :=
 jr a.wt b.rt&&(Km a.d b.rt&&(Km b.d a.rt&&((match a.d,b.d with | some x,some y=>(match Nat.beq x y with | true=>false | false=>true) | _,_=>true) &&
 (jr a.wr b.rr&&(jr a.wr b.wr&&(jr a.rr b.wr&&(jr a.wv b.rv&&(jr a.wv b.wv&&(jr a.rv b.wv&&(jr a.kw b.pm&&jr a.pm b.kw))))))))))
def Pt:Ct->Bool
 | .l _ []=>true | .l .. =>false | _=>true
def pG:List Rc->Bool
 | []=>true
 | .c x::l | .m x::l=>Pt x&&pG l
 | _=>false
def Fj:List (Bool×List Rc)->Bool
 | []=>true
 | (_,l)::m=>pG l&&Fj m
def Pj:RC->Bool
 | .u=>true | .c x=>pG [x] | .a l=>pG l | .t l=>Fj l | .np _=>false
def vD:List (List Nat)->Bool
 | []=>true
 | l::m=>le1 l&&vD m
 where le1:List Nat->Bool
 | []=>true
 | x::l=>Nat.ble x 1&&le1 l
def Bg (p:List (Nat×Bool)) (g:tE) (ar:AR) (v:AV):Bool:=match p with
 | []=>true
 | _=>vD g.vl&&(Pj g.dr&&(match ar.gone,ar.io,ar.fz,v with | [],[],[],.c (.pv ..)=>false | [],[],[],_=>true | _,_,_,_=>false))
def AZ {R:Type} (X:Ctx) (E:Env R) (ops:Array Oper) (s:St) (o:Oper) (K:List (Nat×Bool)->Bool->AV->Dl->Option R):Option R :=
 match xK ops s o.guard with
 | none=>none
 | some (p,q) =>
  let evp:=fun (e:List (Nat×Bool))=>X.yd s (p++e)
  match o.op with
  | .call { callee:= .value f,args,.. }=>match evp [] 0 f with
   | .c (.fn g caps)=>match E.sg g with
    | none=>none
    | some sig =>
     let iZ:=rP (evp [] 0) args.toList++rP (fun v=>AV.c (.pv v 0)) caps
     match s.lk.args sig.am iZ [] with
     | none=>none
     | some ar=>match s.lk.uw sig.vl ar.κ,s.lk.s9 sig ar,Nat.ble iZ.length 1000&&Nat.ble ar.κ.length 1000 with
      | some cJ,some (ow,_),true=>Dq p q (E.fn g ar.cb cJ) ⟨sig.dr,cJ,s.lk.EW ar.io⟩ fun cr =>
       match s.lk.after sig iZ ar cr ow (match o.dst with | some d=>d | none=>0) with
       | none=>none
       | some (v,δ)=>match Bg p sig ar v with
        | true=>K p q v δ
        | false=>none
      | _,_,_=>none
   | _=>none
  | op=>match bY X evp s.lk (match o.dst with | some d=>d | none=>0) o.type op with
   | .no=>none
   | .r0 v=>K p q v Dl.z
   | .r c v=>aJ (ck p q c) (K p q v Dl.z)
   | .w0 v δ=>match p with
    | []=>K p q v δ
    | _=>none
   | .w c v δ=>match p with
    | []=>aJ c (K p q v δ)
    | _=>none
def gC {R:Type} (X:Ctx) (E:Env R) (ops:Array Oper) (draw:Bool):List Oper->St->List Fp->(St->List Fp->Option R)->Option R
 | [],s,fp,K=>K s fp
 | o::l,s,fp,K=>match draw with
  | false=>AZ X E ops s o fun p q v δ=>gC X E ops draw l ((s.app δ).put o.dst (gd p q v)) fp K
  | true=>AZ X E ops (s.cut ops o) o fun p q v δ=>gC X E ops draw l ((s.app δ).put o.dst (gd p q v)) (fp++[iY ops s o v δ]) K
def kZ:List Oper->List Nat
 | []=>[]
 | o::l=>match o.dst with | some d=>d::kZ l | none=>kZ l
def Rr (x:Nat) (l:List Nat):List Nat:=match cd x l with | true=>l | false=>x::l
def KE:List Nat->List Nat->List Nat
 | [],m=>m
 | x::l,m=>Rr x (KE l m)
def Fe (e:Edge):Bool:=match e.ground with | .textOnly _=>false | .gcOnly _=>false | _=>true
def jo:List Edge->List Nat
 | []=>[]
 | e::l=>match Fe e with | true=>e.on::jo l | false=>jo l
def lB (l:List (List Nat)) (j:Nat):List Nat:=match nth l j with | some x=>x | none=>[]
def AN (acc:List (List Nat)):List Nat->List Nat
 | []=>[]
 | e::l=>Rr e (KE (lB acc e) (AN acc l))
def lA:List (List Nat)->List Oper->List (List Nat)
 | acc,[]=>acc
 | acc,o::l=>lA (acc++[AN acc (jo o.after.toList)]) l
def LK:Nat->List Oper->Bool
 | _,[]=>true
 | i,o::l=>(match o.guard with | some (j,_)=>Nat.blt j i | none=>true)&&LK (i+1) l
def ot:Nat->List Oper->Bool
 | _,[]=>true
 | j,o::l=>s6 j (jo o.after.toList)&&ot (j+1) l
def sv (A:List (List Nat)):Nat->List Oper->Bool
 | _,[]=>true
 | i,o::l=>(match o.guard with | some (j,_)=>cd j (lB A i) | none=>true)&&sv A (i+1) l
def gw (A:List (List Nat)):Nat->List Fp->List Fp->Bool
 | _,_,[]=>true
 | j,done,x::l=>go (lB A j) 0 done x&&gw A (j+1) (done++[x]) l
 where go (n:List Nat):Nat->List Fp->Fp->Bool
 | _,[],_=>true
 | i,y::m,x=>(match cd i n with | true=>true | false=>apart y x)&&go n (i+1) m x
def iT:List (Nat×AV)->List (Nat×AV)
 | []=>[]
 | (k,v)::l=>(k,uS v)::iT l
def wX {R:Type} (X:Ctx) (E:Env R) (ops:Array Oper) (draw:Bool) (s:St) (K:St->Option R):Option R :=
 match fB (kZ ops.toList)&&(s6 X.nt (kZ ops.toList)&&(Nat.ble X.nt 1500&&LK 0 ops.toList)) with
 | false=>none
 | true=>gC X E ops draw ops.toList s [] fun s' fp=>match draw with
  | false=>K ⟨iT s'.tm,s'.vs,s'.rs⟩
  | true=>match ot 0 ops.toList&&(sv (lA [] ops.toList) 0 ops.toList&&gw (lA [] ops.toList) 0 [] fp) with
   | true=>K ⟨iT s'.tm,s'.vs,s'.rs⟩
   | false=>none
inductive m7 | b (x:Bool) | i (k:IntKind) (n:Int) | s (x:ByteArray) | l (τ:Ty) (xs:List (El τ)) | n (x:Nat)
inductive Sh | un | b | i (k:IntKind) | s | nl (τ:Ty) | sw (r:Nat) | sl (r:Nat) | nw (r c:Nat) | ns (r c:Nat) | pv (v c:Nat) | pe (r c:Nat) | pn (r c d:Nat) | fn (f:Nat) (caps:List Nat)
inductive OO | c (x:Sh) | a (l:List Sh) | t (l:List (Bool×List Sh))
structure Sk where
 tm:List (Nat×OO)
 vs:List (Nat×List Sh)
 rs:List (Nat×(Ty×Nat))
def Wa:Cv->Sh×List m7
 | .un=>(.un,[]) | .b x=>(.b,[.b x]) | .i k n=>(.i k,[.i k n]) | .s x=>(.s,[.s x]) | .nl τ=>(.nl τ,[])
 | .sw r=>(.sw r,[]) | .sl r a b=>(.sl r,[.n a,.n b]) | .nw r e c=>(.nw r c,[.n e]) | .ns r e c a b=>(.ns r c,[.n e,.n a,.n b])
 | .pv v c=>(.pv v c,[]) | .pe r e c=>(.pe r c,[.n e]) | .pn r e c k d=>(.pn r c d,[.n e,.n k]) | .fn f caps=>(.fn f caps,[])
def QC:List Cv->List Sh×List m7
 | []=>([],[])
 | x::l=>let (a,v):=Wa x
  let (b,w):=QC l
  (a::b,v++w)
def Td:List (Bool×List Cv)->List (Bool×List Sh)×List m7
 | []=>([],[])
 | (t,x)::l=>let (a,v):=QC x
  let (b,w):=Td l
  ((t,a)::b,v++w)
def Je:AV->OO×List m7
 | .c x=>let (a,v):=Wa x
  (.c a,v)
 | .a l=>let (a,v):=QC l
  (.a a,v)
 | .t l=>let (a,v):=Td l
  (.t a,v)
 | .g .. =>(.c .un,[])
def G4:List (Nat×AV)->List (Nat×OO)×List m7
 | []=>([],[])
 | (k,x)::l=>let (a,v):=Je x
  let (b,w):=G4 l
  ((k,a)::b,v++w)
def G6:List (Nat×List Cv)->List (Nat×List Sh)×List m7
 | []=>([],[])
 | (k,x)::l=>let (a,v):=QC x
  let (b,w):=G6 l
  ((k,a)::b,v++w)
def vj:List (Nat×Row)->List (Nat×(Ty×Nat))×List m7
 | []=>([],[])
 | (k,x)::l=>let (b,w):=vj l
  ((k,(x.τ,x.ow))::b,.l x.τ x.xs::w)
def flat (s:St):Sk×List m7 :=
 let (a,v):=G4 s.tm
 let (b,w):=G6 s.vs
 let (c,u):=vj s.rs
 (⟨a,b,c⟩,v++(w++u))
def YV:Sh->List m7->Option (Cv×List m7)
 | .un,l=>some (.un,l) | .b,.b x::l=>some (.b x,l) | .i _,.i k n::l=>some (.i k n,l) | .s,.s x::l=>some (.s x,l) | .nl τ,l=>some (.nl τ,l)
 | .sw r,l=>some (.sw r,l) | .sl r,.n a:: .n b::l=>some (.sl r a b,l) | .nw r c,.n e::l=>some (.nw r e c,l)
 | .ns r c,.n e:: .n a:: .n b::l=>some (.ns r e c a b,l) | .pv v c,l=>some (.pv v c,l) | .pe r c,.n e::l=>some (.pe r e c,l)
 | .pn r c d,.n e:: .n k::l=>some (.pn r e c k d,l) | .fn f caps,l=>some (.fn f caps,l)
 | _,_=>none
def We:List Sh->List m7->Option (List Cv×List m7)
 | [],l=>some ([],l)
 | a::b,l=>match YV a l with
  | some (x,l)=>match We b l with | some (y,l)=>some (x::y,l) | none=>none
  | none=>none
def Y1:List (Bool×List Sh)->List m7->Option (List (Bool×List Cv)×List m7)
 | [],l=>some ([],l)
 | (t,a)::b,l=>match We a l with
  | some (x,l)=>match Y1 b l with | some (y,l)=>some ((t,x)::y,l) | none=>none
  | none=>none
def WW:OO->List m7->Option (AV×List m7)
 | .c a,l=>match YV a l with | some (x,l)=>some (.c x,l) | none=>none
 | .a a,l=>match We a l with | some (x,l)=>some (.a x,l) | none=>none
 | .t a,l=>match Y1 a l with | some (x,l)=>some (.t x,l) | none=>none
def Sq:List (Nat×OO)->List m7->Option (List (Nat×AV)×List m7)
 | [],l=>some ([],l)
 | (k,a)::b,l=>match WW a l with
  | some (x,l)=>match Sq b l with | some (y,l)=>some ((k,x)::y,l) | none=>none
  | none=>none
def QV:List (Nat×List Sh)->List m7->Option (List (Nat×List Cv)×List m7)
 | [],l=>some ([],l)
 | (k,a)::b,l=>match We a l with
  | some (x,l)=>match QV b l with | some (y,l)=>some ((k,x)::y,l) | none=>none
  | none=>none
def Rf:List (Nat×(Ty×Nat))->List m7->Option (List (Nat×Row))
 | [],[]=>some []
 | (k,(_,ow))::b,.l τ xs::l=>match Rf b l with | some y=>some ((k,⟨τ,xs,ow⟩)::y) | none=>none
 | _,_=>none
def AF (k:Sk) (l:List m7):Option St :=
 match Sq k.tm l with
 | none=>none
 | some (a,l)=>match QV k.vs l with
  | none=>none
  | some (b,l)=>match Rf k.rs l with
   | none=>none
   | some c=>some ⟨a,b,c⟩
def D9:List Nat->List Nat->Bool
 | [],[]=>true
 | a::l,b::m=>Nat.beq a b&&D9 l m
 | _,_=>false
def R9:Sh->Sh->Bool
 | .un,.un | .b,.b | .s,.s=>true
 | .i a,.i b=>FE a b
 | .nl a,.nl b=>LU a b
 | .sw a,.sw b | .sl a,.sl b=>Nat.beq a b
 | .nw a b,.nw c d | .ns a b,.ns c d | .pv a b,.pv c d | .pe a b,.pe c d=>Nat.beq a c&&Nat.beq b d
 | .pn a b c,.pn d e f=>Nat.beq a d&&(Nat.beq b e&&Nat.beq c f)
 | .fn a l,.fn b m=>Nat.beq a b&&D9 l m
 | _,_=>false
def Tc:List Sh->List Sh->Bool
 | [],[]=>true
 | a::l,b::m=>R9 a b&&Tc l m
 | _,_=>false
def L5:List (Bool×List Sh)->List (Bool×List Sh)->Bool
 | [],[]=>true
 | (x,a)::l,(y,b)::m=>(match x,y with | true,true | false,false=>true | _,_=>false)&&(Tc a b&&L5 l m)
 | _,_=>false
def Nv:OO->OO->Bool
 | .c a,.c b=>R9 a b
 | .a a,.a b=>Tc a b
 | .t a,.t b=>L5 a b
 | _,_=>false
def MD:List (Nat×OO)->List (Nat×OO)->Bool
 | [],[]=>true
 | (x,a)::l,(y,b)::m=>Nat.beq x y&&(Nv a b&&MD l m)
 | _,_=>false
def My:List (Nat×List Sh)->List (Nat×List Sh)->Bool
 | [],[]=>true
 | (x,a)::l,(y,b)::m=>Nat.beq x y&&(Tc a b&&My l m)
 | _,_=>false
def xB:List (Nat×(Ty×Nat))->List (Nat×(Ty×Nat))->Bool
 | [],[]=>true
 | (x,(a,b))::l,(y,(c,d))::m=>Nat.beq x y&&(LU a c&&((nO d b&&(match d with | 1=>Nat.beq b 1||(Nat.blt x 100000||Nat.ble 400000 x) | _=>true))&&xB l m))
 | _,_=>false
def GN (a b:Sk):Bool:=MD a.tm b.tm&&(My a.vs b.vs&&xB a.rs b.rs)
def oH:List Cv->List Nat->List Nat
 | [],acc=>acc
 | x::l,acc=>match x.row with
  | some r=>match mZ r 0 acc with
   | some _=>oH l acc
   | none=>oH l (acc++[r])
  | none=>oH l acc
def As:List Nat->List Nat->Bool
 | [],_=>true
 | x::l,m=>match mZ x 0 m with | some _=>As l m | none=>false
def U7 (ρ:List (Nat×Nat)) (vk:List Nat) (x:Cv):Cv:=match x with
 | .sw r=>match lk ρ r with | some k=> .sw k | none=> .un
 | .sl r a b=>match lk ρ r with | some k=> .sl k a b | none=> .un
 | .nw r a b=>match lk ρ r with | some k=> .nw k a b | none=> .un
 | .ns r a b c d=>match lk ρ r with | some k=> .ns k a b c d | none=> .un
 | .pe r a b=>match lk ρ r with | some k=> .pe k a b | none=> .un
 | .pn r a b c d=>match lk ρ r with | some k=> .pn k a b c d | none=> .un
 | .pv v _=>match mZ v 0 vk with | some _=>x | none=> .un
 | .fn _ caps=>match As caps vk with | true=>x | false=> .un
 | x=>x
def uP (r:Nat) (row:Row):Bool:=match Nat.ble 100000 r,Nat.ble r 299999,Nat.ble r 399999,row.ow with
 | true,false,true,1=>true
 | true,true,_,1=>false
 | true,true,_,3=>false
 | true,true,_,_=>true
 | _,_,_,_=>false
def Lk.LN (m:Lk) (k:Nat) (x:Cv):Cv×List (Nat×Row):=match x with
 | .nl τ=>(.sw k,[(k,⟨τ,[],5⟩)])
 | .sw r=>match m.r r with
  | some row=>match uP r row,row.ow with
   | false,1=>(.sw k,[(k,row)])
   | false,3=>(.sw k,[(k,row)])
   | _,_=>(x,[])
  | none=>(x,[])
 | .sl .. | .nw .. | .ns .. =>match m.L2 x,(m.vw x).ct with
  | true,some (.l τ ys)=>(.sw k,[(k,⟨τ,ys,match x.row with | some r=>(match m.r r with | some row=>row.ow | none=>1) | none=>1⟩)])
  | _,_=>(x,[])
 | x=>(x,[])
def Lk.NS (m:Lk):Nat->List Cv->List Cv×List (Nat×Row)
 | _,[]=>([],[])
 | k,x::l=>match m.LN k x,m.NS (k+1) l with
  | (y,r),(cs,rs)=>(y::cs,r++rs)
def Lk.ov (m:Lk):Nat->List (Nat×AV)->List (Nat×AV)×List (Nat×Row)
 | _,[]=>([],[])
 | k,(t,.c x)::l=>match m.LN k x,m.ov (k+64) l with
  | (y,r),(n,rs)=>((t,.c y)::n,r++rs)
 | k,(t,.a x)::l=>match m.NS k x,m.ov (k+64) l with
  | (y,r),(n,rs)=>((t,.a y)::n,r++rs)
 | k,p::l=>match m.ov (k+64) l with | (n,rs)=>(p::n,rs)
def Lk.EE (m:Lk):Nat->List (Nat×List Cv)->List (Nat×List Cv)×List (Nat×Row)
 | _,[]=>([],[])
 | k,(v,x)::l=>match m.NS k x,m.EE (k+64) l with
  | (y,r),(n,rs)=>((v,y)::n,r++rs)
def Da (s:St):List Nat->List (Nat×AV)
 | []=>[]
 | t::l=>(t,uS (s.get t))::Da s l
def u5 (vs:List (Nat×List Cv)):List Nat->List (Nat×List Cv)
 | []=>[]
 | v::l=>match lk vs v with | some cs=>(v,cs)::u5 vs l | none=>u5 vs l
def p4 (rs:List (Nat×Row)):Nat->List Nat->List (Nat×Nat)
 | _,[]=>[]
 | k,r::l=>match lk rs r with
  | some row=>(r,match uP r row with | true=>r | false=>500000+k)::p4 rs (k+1) l
  | none=>p4 rs (k+1) l
def pj (rs:List (Nat×Row)):List (Nat×Nat)->List (Nat×Row)
 | []=>[]
 | (r,k)::l=>match lk rs r with
  | some row=>(k,row)::pj rs l
  | none=>pj rs l
def Sb:List (Nat×AV)->List Cv
 | []=>[]
 | (_,v)::l=>v.Cz++Sb l
def BW (f:Cv->Cv):List (Nat×AV)->List (Nat×AV)
 | []=>[]
 | (k,v)::l=>(k,km f v)::BW f l
def BV (f:Cv->Cv):List (Nat×List Cv)->List (Nat×List Cv)
 | []=>[]
 | (k,v)::l=>(k,rP f v)::BV f l
def freeze (fz:List Nat):List (Nat×Row)->List (Nat×Row)
 | []=>[]
 | (k,row)::l=>match cd k fz&&(Nat.ble 1 row.ow&&Nat.ble row.ow 5),Nat.ble 300000 k&&(Nat.ble k 399999&&Nat.beq row.ow 2) with
  | true,false=>(k,{ row with ow:=OP row.ow })::freeze fz l
  | _,_=>(k,row)::freeze fz l
def EN:List (Nat×Row)->Bool
 | []=>true
 | (_,row)::l=>(Nat.ble 1 row.ow&&Nat.ble row.ow 5)&&EN l
def St.freeze (s:St) (fz:List Nat):St:=match fz with
 | []=>s
 | _=>{ s with rs:=Soft.freeze (I7 (rP s.get fz)) s.rs }
def St.prune (s:St) (ts vk:List Nat):St :=
 match s.lk.ov 600000 (Da s ts),s.lk.EE 700000 (u5 s.vs vk) with
 | (tm,r1),(vs,r2)=>match fB (keys (r1++r2))&&(jr (keys (r1++r2)) (keys s.rs)&&EN s.rs) with
  | false=>⟨[],[],[]⟩
  | true =>
   let rs:=r1++(r2++s.rs)
   let ρ:=p4 rs 0 (oH (vcs vs) (oH (Sb tm) []))
   ⟨BW (U7 ρ (keys vs)) tm,BV (U7 ρ (keys vs)) vs,pj rs ρ⟩
structure Wf where
 ts:List Nat
 vk:List Nat
 sk:List Sk
 out:List (Nat×(List Nat×List Nat))
 fz:List Nat
abbrev Live:=List (Nat×Wf)
def Ex.num:Ex->Nat
 | .normal=>0 | .ret=>0 | .exit i=>i+1
def Wf.leave (A:Wf) (e:Ex) (s:St):St:=match lk A.out e.num with
 | some (ts,vk)=>s.prune ts vk
 | none=>s
def dD:Code->Nat
 | .region id _ _=>id
 | .seq a _=>dD a
 | .block _ c=>dD c
 | .loop c=>dD c
 | _=>0
abbrev Loop (R:Type):=Nat->Nat->List m7->(Ex->St->Option R)->Option R
def AY (k:Sk):Nat->List Sk->Option Nat
 | _,[]=>none
 | i,s::l=>match GN k s with | true=>some i | false=>AY k (i+1) l
def exec {R:Type} (X:Ctx) (E:Env R) (L:Live) (lp:Loop R):Code->St->(Ex->St->Option R)->Option R
 | .skip,s,K=>K .normal s
 | .region _ ops draw,s,K=>wX X E ops draw s (K .normal)
 | .seq a b,s,K=>exec X E L lp a s fun e s'=>match e with
  | .normal=>exec X E L lp b s' K
  | e=>K e s'
 | .cond c a b,s,K=>match X.yd s [] 0 c with
  | .c (.b x)=>bif x then exec X E L lp a s K else exec X E L lp b s K
  | _=>none
 | .block id c,s,K=>exec X E L lp c s fun e s'=>match e with
  | .exit i=>match Nat.beq i id with
   | true=>K .normal s'
   | false=>K e s'
  | e=>K e s'
 | .loop c,s,K=>match lk L (dD c) with
  | none=>none
  | some A=>match flat ((s.freeze A.fz).prune A.ts A.vk) with
   | (k,l)=>match AY k 0 A.sk with
    | some i=>lp (dD c) i l K
    | none=>none
 | .exit id,s,K=>K (.exit id) s
 | .ret,s,K=>K .ret s
 | _,_,_=>none
def round {R:Type} (X:Ctx) (E:Env R) (L:Live) (lp:Loop R) (c:Code) (i:Nat) (l:List m7) (K:Ex->St->Option R):Option R :=
 match lk L (dD c) with
 | none=>none
 | some A=>match (match nth A.sk i with | some k=>AF k l | none=>none) with
  | none=>none
  | some s=>exec X E L lp c s fun e s'=>match e with
   | .normal=>exec X E L lp (.loop c) s' K
   | e=>K e (A.leave e s')
def kd (w m:Nat):Nat:=match w with | 0=>(match m with | 0=>1 | m=>m) | w=>w
def oa (k:Nat) (w:Nat) (ms:List Nat):Nat->List Ct->List Cv×List (Nat×Row)
 | _,[]=>([],[])
 | j,y::ys=>match oa k w (tl ms) (j+1) ys with
  | (cs,rs)=>match y with
   | .u=>(.un::cs,rs) | .b x=>(.b x::cs,rs) | .i a n=>(.i a n::cs,rs) | .s x=>(.s x::cs,rs)
   | .l τ xs=>(.sw (k+j)::cs,(k+j,⟨τ,xs,kd w (hd ms)⟩)::rs)
def rN (am:List Nat):Nat->List AC->List AV×List (Nat×Row)
 | _,[]=>([],[])
 | p,x::l=>match rN (tl am) (p+1) l with
  | (vs,rs) =>
   let w:Nat:=kd 0 (hd am)
   match x with
   | .c y=>match oa (100000+p*64) w [] 0 [y] with
    | ([c],r)=>(.c c::vs,r++rs)
    | _=>(.c .un::vs,rs)
   | .a ys=>match oa (100000+p*64) w [] 0 ys with
    | (cs,r)=>(.a cs::vs,r++rs)
   | .p k=>(.c (.pv k 0)::vs,rs)
   | .f g ks=>(.c (.fn g ks)::vs,rs)
   | .al k c=>(.c (.sw (300000+k*64+c))::vs,rs)
   | .io τ xs=>(.c (.sw (200000+p*64))::vs,(200000+p*64,⟨τ,xs,5⟩)::rs)
def Ay:Nat->List (List Nat)->List (List Ct)->List (Nat×List Cv)×List (Nat×Row)
 | _,_,[]=>([],[])
 | k,ms,l::cJ=>match Ay (k+1) (tl ms) cJ,oa (300000+k*64) 0 (nK ms) 0 l with
  | (vs,rs),(cs,r)=>((k,cs)::vs,r++rs)
def IY:Nat->List AV->List (Nat×AV)
 | _,[]=>[]
 | n,v::l=>(n,v)::IY (n+1) l
def entry (g:tE) (cb:List AC) (cJ:List (List Ct)):St :=
 match rN g.am 0 cb,Ay 0 g.vl cJ with
 | (as,rs),(vs,rs')=>⟨IY 0 as,vs,rs++rs'⟩
def Q4 (r:Nat):Option (Nat×Nat):=match Nat.ble 100000 r,Nat.ble r 199999 with
 | true,true=>some ((r-100000)/64,(r-100000) % 64)
 | _,_=>none
def Lk.Oc (m:Lk) (r:Nat):Bool:=match m.r r with | some row=>Nat.beq row.ow 1 | none=>false
def CV:List Nat->List Cv->List Nat
 | _,[]=>[]
 | ms,x::l=>(match hd ms with | 1=>x.rk | _=>[])++CV (tl ms) l
def N8:List (List Nat)->List (Bool×List Cv)->List Nat
 | _,[]=>[]
 | ms,(_,x)::l=>CV (nK ms) x++N8 (tl ms) l
def Lk.Wc (m:Lk) (rl:List (List Nat)):AV->List Nat
 | .c x=>match x with
  | .pv v _=>match m.v v with | some cs=>CV (nK rl) cs | none=>[]
  | x=>CV (nK rl) [x]
 | .a l=>CV (nK rl) l
 | .t l=>N8 rl l
 | .g .. =>[]
def YU (off w:Nat):Bool:=match off with | 0=>rL w | _=>Nat.beq w 3
def Lk.ux (m:Lk) (w:Nat) (x:Cv):Option (Rc×List Nat):=match x with
 | .b y=>some (.c (.b y),[]) | .i k n=>some (.c (.i k n),[]) | .s y=>some (.c (.s y),[])
 | .un=>match w with
  | 7=>some (.un,[])
  | _=>none
 | .nl τ=>match w with
  | 1=>some (.m (.l τ []),[])
  | 7=>some (.un,[])
  | 6=>some (.c (.l τ []),[])
  | w=>match rL w with | true=>some (.c (.l τ []),[]) | false=>none
 | x=>match w with
  | 1=>match (m.vw x).ct with | some y=>some (.m y,[]) | none=>none
  | 7=>some (.un,[])
  | 6=>match x with
   | .sw r=>match Q4 r,m.Oc r with | some (p,j),true=>some (.aw p j,[]) | _,_=>none
   | .nw r e c=>match Q4 r,m.Oc r with | some (p,j),true=>some (.al p j e c,[]) | _,_=>none
   | _=>none
  | w=>match x with
   | .sw r=>match m.r r with
    | some row=>match rL w,nO w row.ow with
     | true,true=>some (.c (.l row.τ row.xs),[r])
     | _,_=>none
    | none=>none
   | .sl r off len=>match m.r r with
    | some row=>match YU off w,nO w row.ow with
     | true,true=>some (.c (.l row.τ (sub row.xs off len)),[r])
     | _,_=>none
    | none=>none
   | _=>none
def Lk.uI (m:Lk):List Nat->List Cv->Option (List Rc×List Nat)
 | _,[]=>some ([],[])
 | ms,x::l=>match m.ux (hd ms) x,m.uI (tl ms) l with
  | some (y,a),some (ys,b)=>some (y::ys,a++b)
  | _,_=>none
def Lk.Df (m:Lk):List (List Nat)->List (Bool×List Cv)->Option (List (Bool×List Rc)×List Nat)
 | _,[]=>some ([],[])
 | ms,(b,x)::l=>match m.uI (nK ms) x,m.Df (tl ms) l with
  | some (y,a),some (ys,c)=>some ((b,y)::ys,a++c)
  | _,_=>none
def Lk.Mh (m:Lk) (rl:List (List Nat)):AV->Option (RC×List Nat)
 | .c x=>match x with
  | .pv v c=>match Nat.ble 1000 v,Nat.beq c 0,m.v v with
   | true,true,some cs=>match m.uI (nK rl) cs with | some (y,a)=>some (.np y,a) | none=>none
   | _,_,_=>none
  | .un=>none
  | x=>match m.ux (hd (nK rl)) x with | some (y,a)=>some (.c y,a) | none=>none
 | .a l=>match m.uI (nK rl) l with | some (y,a)=>some (.a y,a) | none=>none
 | .t l=>match l with
  | []=>some (.u,[])
  | _=>match m.Df rl l with | some (y,a)=>some (.t y,a) | none=>none
 | .g .. =>none
def Lk.L4 (m:Lk) (k:Nat):Nat->List Nat->List Cv->Option (List Ct×List Nat)
 | _,_,[]=>some ([],[])
 | j,ms,x::l=>match m.L4 k (j+1) (tl ms) l with
  | none=>none
  | some (ys,a')=>match hd ms with
   | 0=>match x with
    | .b y=>some (.b y::ys,a') | .i k n=>some (.i k n::ys,a') | .s y=>some (.s y::ys,a')
    | _=>none
   | 1=>match x with
    | .sw r=>match Nat.beq r (300000+k*64+j)&&(Nat.ble r 399999&&m.Oc r),m.ct x with
     | true,some y=>some (y::ys,a')
     | _,_=>none
    | _=>none
   | w=>match x with
    | .nl τ=>match rL w with | true=>some (.l τ []::ys,a') | false=>none
    | .sw r=>match m.r r with
     | some row=>match rL w,nO w row.ow with
      | true,true=>some (.l row.τ row.xs::ys,r::a')
      | _,_=>none
     | none=>none
    | _=>none
def Lk.Ds (m:Lk):Nat->List (List Nat)->Option (List (List Ct)×List Nat)
 | _,[]=>some ([],[])
 | k,w::ms=>match m.v k,m.Ds (k+1) ms with
  | some cs,some (ys,a')=>match m.L4 k 0 w cs with
   | some (y,a)=>some (y::ys,a++a')
   | none=>none
  | _,_=>none
def Lk.yG (m:Lk):Nat->List AC->Option (List Ct×List Nat)
 | _,[]=>some ([],[])
 | p,.io τ _::l=>match m.r (200000+p*64),m.yG (p+1) l with
  | some row,some (ys,a)=>match Nat.beq row.ow 5&&Nat.ble p 1500,LU row.τ τ with
   | true,true=>some (.l row.τ row.xs::ys,(200000+p*64)::a)
   | _,_=>none
  | _,_=>none
 | p,_::l=>m.yG (p+1) l
def Bo (X:Ctx) (s:St):ResultVar->Option AV
 | .tmp t=>some (s.get t)
 | .cell t T=>match s.get t with
  | .c a=>match s.lk.from a with
   | some cs=>match Nat.ble (fV X.P T) cs.length&&CI X.P T with
    | true=>some (Us (BL X.P T) (cs.take (fV X.P T)))
    | false=>none
   | none=>none
  | _=>none
def sP (X:Ctx) (s:St):List ResultVar->Option (List (Bool×List Cv))
 | []=>some []
 | r::l=>match Bo X s r,sP X s l with
  | some (.c .un),_=>none
  | some (.c x),some m=>some ((false,[x])::m)
  | some (.a x),some m=>some ((true,x)::m)
  | _,_=>none
def IS (X:Ctx) (s:St):List ResultVar->Option AV
 | [r]=>Bo X s r
 | l=>match sP X s l with | some m=>some (.t m) | none=>none
def St.out (X:Ctx) (g:tE) (cb:List AC) (f:Func) (s:St):Option CR :=
 match IS X s f.results.toList with
 | none=>none
 | some v=>match s.lk.Mh g.rl v,s.lk.Ds 0 g.vl,s.lk.yG 0 cb with
  | some (rc,a),some (vo,b),some (io,c)=>match fB (a++(b++c))&&(jr (s.lk.Wc g.rl v) (a++(b++c))&&Nat.ble g.vl.length 1000) with
   | true=>some ⟨rc,vo,io⟩
   | false=>none
  | _,_,_=>none
def DK {R:Type} (X:Ctx) (E:Env R) (L:Live) (lp:Loop R) (g:tE) (f:Func) (cb:List AC) (cJ:List (List Ct)) (k:CR->Option R):Option R :=
 match f.body with
 | none=>none
 | some c=>exec (X.at f) E L lp c (entry g cb cJ) fun e s=>match e with
  | .exit _=>none
  | _=>match s.out X g cb f with | some r=>k r | none=>none
def getLoop (n:Nat):Code->Option Code
 | .loop c=>match Nat.beq (dD c) n with | true=>some c | false=>getLoop n c
 | .seq a b=>match getLoop n a with | some c=>some c | none=>getLoop n b
 | .cond _ a b=>match getLoop n a with | some c=>some c | none=>getLoop n b
 | .block _ a=>getLoop n a
 | _=>none
end Go.Soft
namespace Go.Soft
open Go
theorem OS {α β:Type} (f:α->β) (l:List (Nat×α)) (n:Nat):lk (l.map fun p=>(p.1,f p.2)) n=(lk l n).map f:=by
 induction l with
 | nil=>rfl
 | cons p l ih=>obtain ⟨k,v⟩:=p; simp only [List.map_cons,lk]; cases h:Nat.beq k n<;>simp [ih]
theorem ij {α:Type} (l:List α) (n:Nat):nth l n=l[n]? :=by
 induction l generalizing n with
 | nil=>cases n<;>rfl
 | cons x l ih=>cases n with
  | zero=>rfl
  | succ n=>simpa [nth] using ih n
theorem bc (τ:Ty) (x:El τ):(cells τ x).length=sz τ:=by cases τ<;>rfl
theorem oE (τ:Ty):0<sz τ:=by cases τ<;>decide
theorem oF {τ:Ty} (h:τ.deep=false) (x:El τ) (ct:Ct) (hc:ct∈cells τ x):∀ σ ys,ct≠ .l σ ys:=by
 intro σ ys e; subst e; cases τ<;>simp_all [cells,Ty.deep]
theorem xH {τ:Ty} (x:El τ):Ct.u∉cells τ x:=by cases τ<;>simp [cells]
theorem AK {τ:Ty} (x:El τ) (σ:Ty) (ys:List (El σ)) (hc:Ct.l σ ys∈cells τ x):σ.deep=false:=by
 cases τ<;>simp [cells] at hc<;>obtain ⟨rfl,_⟩:=hc<;>rfl
inductive Ow | v (k:Nat) | r (k:Nat) | n (r e c:Nat) | fz | x deriving DecidableEq
abbrev OM:=Nat->Option Ow
structure Gh where
 O:OM
 rv:Nat->Value
 cv:Nat->List Value
 vb:Nat->Nat
inductive Ev | mW | fz | own (t:Ow)
def In:Ev->Option Ow->Prop
 | .mW,o=>o=none\/o=some .fz
 | .fz,o=>o=some .fz
 | .own t,o=>o=some t
def zz (A:Nat->Prop) (w:World) (z:Nat) (v:Value) (n:Nat) (cs:List Value):Prop :=
 cs.length=n*z/\((v= .slice none 0 0/\n=0) \/
  ∃ g off cap cur e fz,v= .slice (some ⟨g,off,none⟩) n cap/\w.heap[g]? =some (.cells cur e fz)/\A g/\n<=cap/\off+n*z<=cur.size/\(cur.toList.drop off).take (n*z)=cs)
def Sl (X:Ctx) (O:OM) (w:World) (c:Ev) (τ:Ty) (v:Value) (n:Nat) (cs:List Value):Prop:=match c with
 | .own t=>w.ownsRow 0 (X.id τ) (sz τ) v n cs/\∀ g,v.ownBlock=some g->O g=some t
 | c=>zz (fun g=>In c (O g)) w (sz τ) v n cs
theorem zz.mono {A B:Nat->Prop} {w w':World} {z:Nat} {v:Value} {n:Nat} {cs:List Value} (h:zz A w z v n cs)
  (tu:∀ g o,w.heap[g]? =some o->A g->w'.heap[g]? =some o/\B g):zz B w' z v n cs:=by
 refine ⟨h.1,?_⟩
 rcases h.2 with hn | ⟨g,off,cap,cur,e,fz,hv,hg,ha,hr⟩
 ·exact .inl hn
 ·exact .inr ⟨g,off,cap,cur,e,fz,hv,(tu g _ hg ha).1,(tu g _ hg ha).2,hr⟩
theorem Gn {w:World} {base:Nat} {e:TypeId} {z:Nat} {v:Value} {n:Nat} {cs:List Value} {A:Nat->Prop} (h:w.ownsRow base e z v n cs)
  (ha:∀ g,v.ownBlock=some g->A g):zz A w z v n cs:=by
 refine ⟨h.1,?_⟩
 rcases h.2 with hn | ⟨g,cap,cur,hv,_,hg,HX,_,hs,ht⟩
 ·exact .inl hn
 ·refine .inr ⟨g,0,cap,cur,e,(0,0),hv,hg,ha g (by simp [hv,Value.ownBlock]),HX,?_,by simpa using ht⟩
  rw [hs,Nat.zero_add]; exact zP _ HX
theorem Sl.ze {X:Ctx} {O:OM} {w:World} {c:Ev} {τ:Ty} {v:Value} {n:Nat} {cs:List Value} (h:Sl X O w c τ v n cs):zz (fun g=>In c (O g)) w (sz τ) v n cs:=by
 cases c with
 | own t=>exact Gn h.1 h.2
 | _=>exact h
def Ev.px:Ev->Bool
 | .own _=>true
 | _=>false
theorem Sl.re {X:Ctx} {O O':OM} {w w':World} {c c':Ev} {τ:Ty} {v:Value} {n:Nat} {cs:List Value} (h:Sl X O w c τ v n cs)
  (tu:∀ g o,w.heap[g]? =some o->In c (O g)->w'.heap[g]? =some o/\In c' (O' g)) (hc:c'.px=true->c.px=true):Sl X O' w' c' τ v n cs:=by
 cases c' with
 | own t =>
  cases c with
  | own s =>
   obtain ⟨hr,ho⟩:=h
   refine ⟨⟨hr.1,?_⟩,fun g hg=> ?_⟩
   ·rcases hr.2 with hn | ⟨g,cap,cur,hv,hb,hg,rest⟩
    ·exact .inl hn
    ·exact .inr ⟨g,cap,cur,hv,hb,(tu g _ hg (ho g (by simp [hv,Value.ownBlock]))).1,rest⟩
   ·rcases hr.2 with ⟨hn,_⟩ | ⟨g',cap,cur,hv,hb,rY,rest⟩
    ·simp [hn,Value.ownBlock] at hg
    ·have:g=g':=by simpa [hv,Value.ownBlock] using hg.symm
     subst this
     exact (tu g _ rY (ho g hg)).2
  | _=>simp [Ev.px] at hc
 | _=>exact h.ze.mono tu
def gx:Ct->Value
 | .b x=> .bool x | .i k n=> .int k n | .s x=> .string x | _=> .slice none 0 0
def ga (τ:Ty) (ys:List (El τ)):List Value:=ys.flatMap fun y=>(cells τ y).map gx
def fW (X:Ctx) (O:OM) (w:World) (c:Ev):Ct->Value->Prop
 | .u,_=>False
 | .l τ ys,v=>τ.deep=false/\Sl X O w c τ v ys.length (ga τ ys)
 | x,v=>v=gx x
def dN (k ow:Nat):Ev:=match eu ow with | true=> .own (.r k) | false=>match ow with | 3=> .fz | _=> .mW
def dP (k e c ow:Nat):Ev:=match ow with | 5=> .own (.n k e c) | 4=> .fz | 3=> .fz | _=> .mW
structure cS (X:Ctx) (O:OM) (w:World) (k:Nat) (row:Row) (v:Value) (cs:List Value):Prop where
 top:Sl X O w (dN k row.ow) row.τ v row.xs.length cs
 rA:∀ e c ct,e<row.xs.length->(row.cs e)[c]? =some ct->∃ u,cs[e*sz row.τ+c]? =some u/\fW X O w (dP k e c row.ow) ct u
theorem fW.re {X:Ctx} {O O':OM} {w w':World} {c c':Ev} {ct:Ct} {v:Value} (h:fW X O w c ct v)
  (tu:∀ g o,w.heap[g]? =some o->In c (O g)->w'.heap[g]? =some o/\In c' (O' g)) (hc:c'.px=true->c.px=true):fW X O' w' c' ct v:=by
 cases ct with
 | u=>exact h
 | l τ ys=>exact ⟨h.1,h.2.re tu hc⟩
 | _=>exact h
theorem RW {d a:Nat} (h:nO d a=true) (k k':Nat):(dN k' d).px=true->(dN k a).px=true:=by
 intro hd
 have h1:eu d=true:=by
  cases hk:eu d with
  | true=>rfl
  | false =>
   exfalso; revert hd; simp only [dN,hk]
   intro hd; revert hd; split<;>simp_all [Ev.px]
   all_goals (rename_i h; revert h; split<;>simp)
 have h2:eu a=true:=by
  rcases d with _|_|_|_|_|_|d<;>simp_all [eu,nO]<;>(revert h; split<;>simp_all [eu])
 simp [dN,h2,Ev.px]
theorem Fl {d a:Nat} (h:nO d a=true) (k k' e c:Nat):(dP k' e c d).px=true->(dP k e c a).px=true:=by
 intro hd
 have h1:d=5:=by
  revert hd; simp only [dP]; split<;>simp [Ev.px]
 subst h1
 have h2:a=5:=by revert h; simp only [nO]; split<;>simp_all
 subst h2; rfl
theorem cS.re {X:Ctx} {O O':OM} {w w':World} {k k' dL:Nat} {row:Row} {v:Value} {cs:List Value} (h:cS X O w k row v cs) (hle:nO dL row.ow=true)
  (cj:∀ g o,w.heap[g]? =some o->In (dN k row.ow) (O g)->w'.heap[g]? =some o/\In (dN k' dL) (O' g))
  (ac7:∀ e c g o,w.heap[g]? =some o->In (dP k e c row.ow) (O g)->w'.heap[g]? =some o/\In (dP k' e c dL) (O' g)):cS X O' w' k' { row with ow:=dL } v cs :=
 ⟨h.top.re cj (RW hle k k'),fun e c ct he dg=>let ⟨u,hu,hr⟩:=h.rA e c ct he dg; ⟨u,hu,hr.re (ac7 e c) (Fl hle k k' e c)⟩⟩
theorem NL {a:Nat} (h:a=1\/a=2\/a=3\/a=4\/a=5):nO a a=true:=by rcases h with rfl | rfl | rfl | rfl | rfl<;>rfl
def B2 (A:Nat->Prop) (w:World):Ct->Value->Prop
 | .u,_=>False
 | .l τ ys,v=>τ.deep=false/\zz A w (sz τ) v ys.length (ga τ ys)
 | x,v=>v=gx x
structure vO (A:Nat->Prop) (w:World) (τ:Ty) (xs:List (El τ)) (v:Value) (cs:List Value):Prop where
 top:zz A w (sz τ) v xs.length cs
 rA:∀ e c ct,e<xs.length->(cells τ (xs.getD e (cg τ)))[c]? =some ct->∃ u,cs[e*sz τ+c]? =some u/\B2 A w ct u
def CtV (A:Nat->Prop) (w:World):Ct->Value->Prop
 | .u,_=>True
 | .l τ xs,v=>∃ cs,vO A w τ xs v cs
 | x,v=>v=gx x
theorem B2.mono {A B:Nat->Prop} {w w':World} {ct:Ct} {v:Value} (h:B2 A w ct v) (tu:∀ g o,w.heap[g]? =some o->A g->w'.heap[g]? =some o/\B g):B2 B w' ct v:=by
 cases ct with
 | u=>exact h
 | l τ ys=>exact ⟨h.1,h.2.mono tu⟩
 | _=>exact h
theorem vO.mono {A B:Nat->Prop} {w w':World} {τ:Ty} {xs:List (El τ)} {v:Value} {cs:List Value} (h:vO A w τ xs v cs)
  (tu:∀ g o,w.heap[g]? =some o->A g->w'.heap[g]? =some o/\B g):vO B w' τ xs v cs :=
 ⟨h.top.mono tu,fun e c ct he hc=>let ⟨u,hu,hr⟩:=h.rA e c ct he hc; ⟨u,hu,hr.mono tu⟩⟩
def Mk (k:Nat) (o:Option Ow):Prop:=o=none\/o=some .fz\/o=some (.r k)\/∃ e c,o=some (.n k e c)
theorem E2 {k ow:Nat} {o:Option Ow} (h:In (dN k ow) o):Mk k o:=by
 revert h; simp only [dN]; split
 ·exact fun h=> .inr (.inr (.inl h))
 ·split
  ·exact fun h=> .inr (.inl h)
  ·exact fun h=>h.elim .inl (fun h=> .inr (.inl h))
theorem KJ {k e c ow:Nat} {o:Option Ow} (h:In (dP k e c ow) o):Mk k o:=by
 revert h; simp only [dP]; split
 ·exact fun h=> .inr (.inr (.inr ⟨e,c,h⟩))
 ·exact fun h=> .inr (.inl h)
 ·exact fun h=> .inr (.inl h)
 ·exact fun h=>h.elim .inl (fun h=> .inr (.inl h))
theorem fW.W3 {X:Ctx} {O:OM} {w:World} {c:Ev} {ct:Ct} {v:Value} {A:Nat->Prop} (h:fW X O w c ct v) (ha:∀ g,In c (O g)->A g):B2 A w ct v:=by
 cases ct with
 | u=>exact h
 | l τ ys=>exact ⟨h.1,h.2.ze.mono fun g o hg hi=>⟨hg,ha g hi⟩⟩
 | _=>exact h
theorem cS.W3 {X:Ctx} {O:OM} {w:World} {k:Nat} {row:Row} {v:Value} {cs:List Value} (h:cS X O w k row v cs) {A:Nat->Prop} (ha:∀ g,Mk k (O g)->A g):vO A w row.τ row.xs v cs :=
 ⟨h.top.ze.mono fun g o hg hi=>⟨hg,ha g (E2 hi)⟩,fun e c ct he hc=>let ⟨u,hu,hr⟩:=h.rA e c ct he hc; ⟨u,hu,hr.W3 fun g hi=>ha g (KJ hi)⟩⟩
theorem vO.Ix {X:Ctx} {O:OM} {w:World} {k:Nat} {τ:Ty} {xs:List (El τ)} {v:Value} {cs:List Value} (h:vO (fun g=>In .mW (O g)) w τ xs v cs):cS X O w k ⟨τ,xs,1⟩ v cs:=by
 refine ⟨h.top,fun e c ct he hc=> ?_⟩
 obtain ⟨u,hu,hr⟩:=h.rA e c ct he hc
 refine ⟨u,hu,?_⟩
 cases ct with
 | u=>exact hr
 | l σ ys=>exact hr
 | _=>exact hr
theorem vO.WD {X:Ctx} {O:OM} {w:World} {k:Nat} {τ:Ty} {xs:List (El τ)} {v:Value} {cs:List Value} (h:vO (fun g=>In .fz (O g)) w τ xs v cs):cS X O w k ⟨τ,xs,3⟩ v cs:=by
 refine ⟨h.top,fun e c ct he hc=> ?_⟩
 obtain ⟨u,hu,hr⟩:=h.rA e c ct he hc
 refine ⟨u,hu,?_⟩
 cases ct with
 | u=>exact hr
 | l σ ys=>exact hr
 | _=>exact hr
def Aw (z:Nat) (b:Value) (off len:Nat) (v:Value):Prop :=
 (b= .slice none 0 0/\v= .slice none 0 0/\len=0) \/
 ∃ g o n cap o' cap',b= .slice (some ⟨g,o,none⟩) n cap/\v= .slice (some ⟨g,o',none⟩) len cap'/\(len<=cap'/\cap'=cap-off)/\o<=o'/\o'<=o+off*z/\(len=0\/o'=o+off*z)
theorem kF {α:Type} (xs:List α) {off len:Nat} (h:off+len<=xs.length):(sub xs off len).length=len:=by
 simp [sub]; omega
theorem su {α:Type} (xs:List α) {off len e:Nat} (d:α) (he:e<len):(sub xs off len).getD e d=xs.getD (off+e) d:=by
 simp [sub,List.getD,List.getElem?_take,he]
theorem zz.sub {A:Nat->Prop} {w:World} {z:Nat} {v:Value} {n:Nat} {cs:List Value} (h:zz A w z v n cs) {off len:Nat} (hle:off+len<=n) {u:Value} (hs:Aw z v off len u) :
  zz A w z u len ((cs.drop (off*z)).take (len*z)):=by
 have hlen:((cs.drop (off*z)).take (len*z)).length=len*z:=by
  have h1:=h.1
  have h2:(off+len)*z<=n*z:=zP _ hle
  rw [Nat.add_mul] at h2
  simp [List.length_take,List.length_drop]; omega
 refine ⟨hlen,?_⟩
 rcases hs with ⟨_,hu,h0⟩ | ⟨g,o,n',cap,o',cap',hb,hu,Vt,SO,XU,Zh⟩
 ·exact .inl ⟨hu,h0⟩
 ·rcases h.2 with ⟨hn,_⟩ | ⟨g1,off1,cap1,cur,e,fz,hv,hg,ha,_,mn,ht⟩
  ·rw [hn] at hb; cases hb
  ·rw [hv] at hb
   obtain ⟨rfl,rfl⟩:g1=g/\off1=o:=by
    injection hb with h1 _ _; injection h1 with h1; injection h1 with h1 h2 _; exact ⟨h1,h2⟩
   have h2:(off+len)*z<=n*z:=zP _ hle
   rw [Nat.add_mul] at h2
   refine .inr ⟨g1,o',cap',cur,e,fz,hu,hg,ha,Vt.1,?_,?_⟩
   ·rcases Zh with h0 | h0
    ·subst h0; simp; omega
    ·omega
   ·rcases Zh with h0 | h0
    ·subst h0; simp
    ·subst h0
     rw [← ht,List.drop_take,List.take_take,List.drop_drop]
     congr 1; omega
theorem vO.sub {A:Nat->Prop} {w:World} {τ:Ty} {xs:List (El τ)} {v:Value} {cs:List Value} (h:vO A w τ xs v cs) {off len:Nat} (hle:off+len<=xs.length) {u:Value}
  (hs:Aw (sz τ) v off len u):vO A w τ (Soft.sub xs off len) u ((cs.drop (off*sz τ)).take (len*sz τ)):=by
 have hl:=kF xs hle
 refine ⟨by rw [hl]; exact h.top.sub hle hs,fun e c ct he hc=> ?_⟩
 rw [hl] at he
 rw [su xs _ he] at hc
 obtain ⟨x,hx,hr⟩:=h.rA (off+e) c ct (by omega) hc
 refine ⟨x,?_,hr⟩
 have lH:c<sz τ:=by
  have:=(zU.1 hc).1
  rwa [bc] at this
 have:e*sz τ+c<len*sz τ:=by
  have:=zP (sz τ) (show e+1<=len from he)
  rw [Nat.add_mul] at this; omega
 rw [List.getElem?_take,if_pos this,List.getElem?_drop,← hx]
 congr 1; rw [Nat.add_mul]; omega
theorem fA (τ:Ty) (ys:List (El τ)):∀ e c,e<ys.length->c<sz τ->(ga τ ys)[e*sz τ+c]? =((cells τ (ys.getD e (cg τ)))[c]?).map gx:=by
 induction ys with
 | nil=>intro e c he; simp at he
 | cons y ys ih =>
  intro e c he hc
  have hl:((cells τ y).map gx).length=sz τ:=by simp [bc]
  simp only [ga,List.flatMap_cons]
  cases e with
  | zero=>rw [List.getElem?_append_left (by rw [hl]; simpa using hc)]; simp
  | succ e =>
   rw [List.getElem?_append_right (by rw [hl,Nat.add_mul]; omega),hl]
   have:=ih e c (by simpa using he) hc
   simp only [ga] at this
   simpa [show (e+1)*sz τ+c-sz τ=e*sz τ+c by rw [Nat.add_mul]; omega] using this
theorem mz (τ:Ty) (ys:List (El τ)):(ga τ ys).length=ys.length*sz τ:=by
 induction ys with
 | nil=>simp [ga]
 | cons y ys ih=>simp only [ga,List.flatMap_cons,zK,List.length_map,bc,zR,Nat.add_mul] at ih ⊢; omega
theorem vO.of_flat {A:Nat->Prop} {w:World} {τ:Ty} {ys:List (El τ)} {v:Value} (hd:τ.deep=false) (h:zz A w (sz τ) v ys.length (ga τ ys)):vO A w τ ys v (ga τ ys):=by
 refine ⟨h,fun e c ct he hc=> ?_⟩
 have lH:c<sz τ:=by
  have:=(zU.1 hc).1
  rwa [bc] at this
 refine ⟨gx ct,by rw [fA τ ys e c he lH,hc]; rfl,?_⟩
 have hm:ct∈cells τ (ys.getD e (cg τ)):=List.mem_of_getElem? hc
 cases ct with
 | u=>exact absurd hm (xH _)
 | l σ zs=>exact absurd rfl (oF hd _ _ hm σ zs)
 | _=>rfl
theorem vO.flat {A:Nat->Prop} {w:World} {τ:Ty} {ys:List (El τ)} {v:Value} {cs:List Value} (hd:τ.deep=false) (h:vO A w τ ys v cs):cs=ga τ ys:=by
 have hz:=oE τ
 apply List.ext_getElem?
 intro i
 by_cases hi:i<ys.length*sz τ
 ·have he:i/sz τ<ys.length:=Nat.div_lt_of_lt_mul (by rwa [Nat.mul_comm])
  have hc:i % sz τ<sz τ:=Nat.mod_lt _ hz
  have VU:i/sz τ*sz τ+i % sz τ=i:=by rw [Nat.mul_comm]; exact Nat.div_add_mod i (sz τ)
  have C1:(cells τ (ys.getD (i/sz τ) (cg τ)))[i % sz τ]? =some ((cells τ (ys.getD (i/sz τ) (cg τ)))[i % sz τ]'(by rw [bc]; exact hc)):=List.getElem?_eq_getElem _
  obtain ⟨u,hu,hr⟩:=h.rA _ _ _ he C1
  have h2:=fA τ ys _ _ he hc
  rw [VU] at hu h2
  rw [hu,h2,C1]
  have hm:(cells τ (ys.getD (i/sz τ) (cg τ)))[i % sz τ]'(by rw [bc]; exact hc)∈cells τ (ys.getD (i/sz τ) (cg τ)):=List.getElem_mem _
  revert hr hm
  generalize (cells τ (ys.getD (i/sz τ) (cg τ)))[i % sz τ]'(by rw [bc]; exact hc)=ct
  intro hr hm
  cases ct with
  | u=>exact absurd hm (xH _)
  | l σ zs=>exact absurd rfl (oF hd _ _ hm σ zs)
  | _=>exact congrArg some hr
 ·rw [List.getElem?_eq_none (by rw [h.top.1]; omega),List.getElem?_eq_none (by rw [mz]; omega)]
def AtV (b:Value) (i:Nat) (v:Value):Prop:=∃ g o n cap,b= .slice (some ⟨g,o,none⟩) n cap/\v= .pointer (some ⟨g,o+i,none⟩)
def bp (m:Lk) (γ:Gh):Cv->Value->Prop
 | .un,v=>v.oneCell'=true
 | .b x,v=>v= .bool x
 | .i k n,v=>v= .int k n
 | .s x,v=>v= .string x
 | .nl _,v=>v= .slice none 0 0
 | .sw r,v=>(∃ row,m.r r=some row)/\v=γ.rv r
 | .sl r off len,v=>∃ row,m.r r=some row/\off+len<=row.xs.length/\Aw (sz row.τ) (γ.rv r) off len v
 | .nw r e c,v=>∃ row τ ys,m.r r=some row/\e<row.xs.length/\(row.cs e)[c]? =some (.l τ ys)/\(γ.cv r)[e*sz row.τ+c]? =some v
 | .ns r e c off len,v=>∃ row τ ys u,m.r r=some row/\e<row.xs.length/\(row.cs e)[c]? =some (.l τ ys)/\(γ.cv r)[e*sz row.τ+c]? =some u/\off+len<=ys.length/\Aw (sz τ) u off len v
 | .pv k c,v=>(∃ cs,m.v k=some cs)/\v= .pointer (some ⟨γ.vb k,c,none⟩)
 | .pe r e c,v=>∃ row,m.r r=some row/\e<row.xs.length/\AtV (γ.rv r) (e*sz row.τ+c) v
 | .pn r e c k d,v=>∃ row τ ys u,m.r r=some row/\e<row.xs.length/\(row.cs e)[c]? =some (.l τ ys)/\(γ.cv r)[e*sz row.τ+c]? =some u/\k<ys.length/\AtV u (k*sz τ+d) v
 | .fn f caps,v=>(∀ k∈caps,∃ cs,m.v k=some cs)/\v= .func (.func f) #[] (caps.map fun k=>Value.pointer (some ⟨γ.vb k,0,none⟩)).toArray
inductive b9 (m:Lk) (γ:Gh):List Cv->List Value->Prop
 | nil:b9 m γ [] []
 | cons {x:Cv} {v:Value} {l:List Cv} {u:List Value}:bp m γ x v->b9 m γ l u->b9 m γ (x::l) (v::u)
def OC (m:Lk) (γ:Gh) (p:Bool×List Cv) (v:Value):Prop:=∃ us,b9 m γ p.2 us/\(p.1=true->v= .agg us.toArray)/\(p.1=false->us=[v])
inductive sT (m:Lk) (γ:Gh):List (Bool×List Cv)->List Value->Prop
 | nil:sT m γ [] []
 | cons {p:Bool×List Cv} {v:Value} {l:List (Bool×List Cv)} {u:List Value}:OC m γ p v->sT m γ l u->sT m γ (p::l) (v::u)
def bn (m:Lk) (γ:Gh):AV->Value->Prop
 | .c .un,_=>True
 | .c x,v=>bp m γ x v
 | .a l,v=>∃ us,v= .agg us.toArray/\b9 m γ l us
 | .t l,v=>∃ us,v= .tuple us.toArray/\sT m γ l us
 | .g _ q u,v=>(q=true->bn m γ u v)/\(q=false->v=undef)
theorem bn.of {m:Lk} {γ:Gh} {x:Cv} {v:Value} (h:bp m γ x v):bn m γ (.c x) v:=by
 cases x<;>first | trivial | exact h
theorem bn.to {m:Lk} {γ:Gh} {x:Cv} {v:Value} (h:bn m γ (.c x) v) (hx:x≠ .un):bp m γ x v:=by
 cases x<;>first | exact absurd rfl hx | exact h
structure Rel (X:Ctx) (m:Lk) (γ:Gh) (w:World):Prop where
 vs:∀ k cs,m.v k=some cs->γ.O (γ.vb k)=some (.v k)/\∃ cur e,w.heap[γ.vb k]? =some (.cells cur e (0,0))/\b9 m γ cs cur.toList
 rs:∀ k row,m.r k=some row->cS X γ.O w k row (γ.rv k) (γ.cv k)
def E7 (X:Ctx) (S:St) (γ:Gh) (a:Act):Prop:=X.nt<=a.tmps.size/\∀ t av,lk S.tm t=some av->bn S.lk γ av (a.tmps.getD t undef)
structure Fr (O0:OM) (w0:World) (O:OM) (w:World):Prop where
 os:w.os=w0.os
 tape:w.tape=w0.tape
 output:w.output=w0.output
 size:w0.heap.size<=w.heap.size
 oO:∀ g,g<w0.heap.size->(O0 g=none\/O0 g=some .fz\/O0 g=some .x)->O g=O0 g/\w.heap[g]? =w0.heap[g]?
 top:∀ g,w.heap.size<=g->O g=none
structure W9 (m:Lk) (γ:Gh) (m':Lk) (γ':Gh) (r:Nat):Prop where
 row:∀ row,m.r r=some row->∃ row',m'.r r=some row'/\row'.τ=row.τ/\row.xs.length<=row'.xs.length
 rv:γ'.rv r=γ.rv r
structure O5 (m:Lk) (γ:Gh) (m':Lk) (γ':Gh) (r:Nat):Prop where
 cell:∀ row row',m.r r=some row->m'.r r=some row'->∀ e c τ ys,e<row.xs.length->(row.cs e)[c]? =some (.l τ ys) ->
  (∃ ys':List (El τ),(row'.cs e)[c]? =some (.l τ ys')/\ys.length<=ys'.length)/\(γ'.cv r)[e*sz row.τ+c]? =(γ.cv r)[e*sz row.τ+c]?
structure Xa (m:Lk) (γ:Gh) (m':Lk) (γ':Gh) (k:Nat):Prop where
 cs:∀ cs,m.v k=some cs->∃ cs',m'.v k=some cs'
 vb:γ'.vb k=γ.vb k
theorem bp.re {m m':Lk} {γ γ':Gh} {x:Cv} {v:Value} (h:bp m γ x v) (hr:∀ r,x.row=some r->W9 m γ m' γ' r) (hn:∀ r,x.row=some r->x.inner=true->O5 m γ m' γ' r)
  (hv:∀ k∈x.vk,Xa m γ m' γ' k):bp m' γ' x v:=by
 cases x with
 | un=>exact h
 | b x=>exact h
 | i k n=>exact h
 | s x=>exact h
 | nl τ=>exact h
 | sw r =>
  obtain ⟨⟨row,bo⟩,h2⟩:=h
  obtain ⟨row',h3,_⟩:=(hr r rfl).row row bo
  exact ⟨⟨row',h3⟩,h2.trans (hr r rfl).rv.symm⟩
 | sl r off len =>
  obtain ⟨row,bo,hle,hs⟩:=h
  obtain ⟨row',h3,h4,h5⟩:=(hr r rfl).row row bo
  exact ⟨row',h3,by omega,by rw [h4,(hr r rfl).rv]; exact hs⟩
 | nw r e c =>
  obtain ⟨row,τ,ys,bo,he,hc,hu⟩:=h
  obtain ⟨row',h3,h4,h5⟩:=(hr r rfl).row row bo
  obtain ⟨⟨ys',h6,h7⟩,h8⟩:=(hn r rfl rfl).cell row row' bo h3 e c τ ys he hc
  exact ⟨row',τ,ys',h3,by omega,h6,by rw [h4,h8]; exact hu⟩
 | ns r e c off len =>
  obtain ⟨row,τ,ys,u,bo,he,hc,hu,hle,hs⟩:=h
  obtain ⟨row',h3,h4,h5⟩:=(hr r rfl).row row bo
  obtain ⟨⟨ys',h6,h7⟩,h8⟩:=(hn r rfl rfl).cell row row' bo h3 e c τ ys he hc
  exact ⟨row',τ,ys',u,h3,by omega,h6,by rw [h4,h8]; exact hu,by omega,hs⟩
 | pv k c =>
  obtain ⟨⟨cs,iW⟩,h2⟩:=h
  exact ⟨(hv k (by simp [Cv.vk])).cs cs iW,by rw [(hv k (by simp [Cv.vk])).vb]; exact h2⟩
 | pe r e c =>
  obtain ⟨row,bo,he,ha⟩:=h
  obtain ⟨row',h3,h4,h5⟩:=(hr r rfl).row row bo
  exact ⟨row',h3,by omega,by rw [h4,(hr r rfl).rv]; exact ha⟩
 | pn r e c k d =>
  obtain ⟨row,τ,ys,u,bo,he,hc,hu,hk,ha⟩:=h
  obtain ⟨row',h3,h4,h5⟩:=(hr r rfl).row row bo
  obtain ⟨⟨ys',h6,h7⟩,h8⟩:=(hn r rfl rfl).cell row row' bo h3 e c τ ys he hc
  exact ⟨row',τ,ys',u,h3,by omega,h6,by rw [h4,h8]; exact hu,by omega,ha⟩
 | fn f caps =>
  obtain ⟨h1,h2⟩:=h
  refine ⟨fun k hk=>let ⟨cs,iW⟩:=h1 k hk; (hv k hk).cs cs iW,?_⟩
  rw [h2]; congr 2
  exact List.map_congr_left fun k hk=>by rw [(hv k hk).vb]
structure Le (m M:Lk):Prop where
 r:∀ k row,m.r k=some row->M.r k=some row
 v:∀ k cs,m.v k=some cs->M.v k=some cs
theorem Le.refl (m:Lk):Le m m:=⟨fun _ _ h=>h,fun _ _ h=>h⟩
theorem vq (row:Row) (e:Nat):row.cs e=cells row.τ (row.xs.getD e (cg row.τ)):=rfl
theorem vO.cell {A:Nat->Prop} {w:World} {row:Row} {v:Value} {cs:List Value} (h:vO A w row.τ row.xs v cs) {e c:Nat} {τ:Ty} {ys:List (El τ)} {u:Value}
  (he:e<row.xs.length) (hc:(row.cs e)[c]? =some (.l τ ys)) (hu:cs[e*sz row.τ+c]? =some u):τ.deep=false/\vO A w τ ys u (ga τ ys):=by
 obtain ⟨u',oT,hd,hs⟩:=h.rA e c _ he hc
 rw [hu] at oT; cases oT
 exact ⟨hd,.of_flat hd hs⟩
def Ug (γ:Gh) (x:Cv) (g:Nat):Prop:=match x.row with | some r=>Mk r (γ.O g) | none=>False
theorem Kr {m M:Lk} {γ:Gh} {w:World} (hm:Le m M) {x:Cv} {v:Value} (hx:bp M γ x v) {τ:Ty} {xs:List (El τ)} {A:Nat->Prop}
  (fam:∀ r row,m.r r=some row->x.row=some r->vO A w row.τ row.xs (γ.rv r) (γ.cv r))
  (h:(m.vw x).ct=some (.l τ xs)):(∃ cs,vO A w τ xs v cs)/\(m.vw x).len=some xs.length:=by
 cases x with
 | nl σ =>
  simp only [Lk.vw,Vw.ct,zA,Ct.l.injEq] at h
  obtain ⟨rfl,h⟩:=h; cases h
  refine ⟨⟨[],⟨by simp,.inl ⟨hx,rfl⟩⟩,fun e c ct he=>by simp at he⟩,rfl⟩
 | sw r =>
  simp only [Lk.vw] at h ⊢
  cases hr:m.r r with
  | none=>simp [hr,Vw.ct] at h
  | some row =>
   simp only [hr,Vw.ct,zA,Ct.l.injEq] at h
   obtain ⟨rfl,h⟩:=h; cases h
   obtain ⟨_,hx⟩:=hx
   exact ⟨⟨_,by rw [hx]; exact fam r row hr rfl⟩,by simp [Vw.len]⟩
 | sl r off len =>
  simp only [Lk.vw] at h ⊢
  cases hr:m.r r with
  | none=>simp [hr,Vw.ct] at h
  | some row =>
   simp only [hr,Vw.ct,zA,Ct.l.injEq] at h
   obtain ⟨rfl,h⟩:=h; cases h
   obtain ⟨row',cy,hle,hs⟩:=hx
   rw [hm.r r row hr] at cy; cases cy
   exact ⟨⟨_,(fam r row hr rfl).sub hle hs⟩,by simp [Vw.len,kF _ hle]⟩
 | nw r e c =>
  simp only [Lk.vw,ij] at h ⊢
  cases hr:m.r r with
  | none=>simp [hr,Vw.ct] at h
  | some row =>
   obtain ⟨row',τ',ys,cy,he,hc,hu⟩:=hx
   rw [hm.r r row hr] at cy; cases cy
   simp only [hr,hc,Vw.ct,zA,Ct.l.injEq] at h
   obtain ⟨rfl,h⟩:=h; cases h
   exact ⟨⟨_,((fam r row hr rfl).cell he hc hu).2⟩,by simp [hc,Vw.len]⟩
 | ns r e c off len =>
  simp only [Lk.vw,ij] at h ⊢
  cases hr:m.r r with
  | none=>simp [hr,Vw.ct] at h
  | some row =>
   obtain ⟨row',τ',ys,u,cy,he,hc,hu,hle,hs⟩:=hx
   rw [hm.r r row hr] at cy; cases cy
   simp only [hr,hc,Vw.ct,zA,Ct.l.injEq] at h
   obtain ⟨rfl,h⟩:=h; cases h
   exact ⟨⟨_,((fam r row hr rfl).cell he hc hu).2.sub hle hs⟩,by simp [hc,Vw.len,kF _ hle]⟩
 | _=>simp [Lk.vw,Vw.ct] at h
def R5 (r ow:Nat) (o:Option Ow):Prop:=In (dN r ow) o\/∃ e c,In (dP r e c ow) o
theorem cS.Z9 {X:Ctx} {O:OM} {w:World} {k:Nat} {row:Row} {v:Value} {cs:List Value} (h:cS X O w k row v cs) {A:Nat->Prop} (ha:∀ g,R5 k row.ow (O g)->A g):vO A w row.τ row.xs v cs :=
 ⟨h.top.ze.mono fun g o hg hi=>⟨hg,ha g (.inl hi)⟩,fun e c ct he hc=>let ⟨u,hu,hr⟩:=h.rA e c ct he hc; ⟨u,hu,hr.W3 fun g hi=>ha g (.inr ⟨e,c,hi⟩)⟩⟩
theorem Ac {X:Ctx} {m M:Lk} {γ:Gh} {w:World} (hm:Le m M) (hR:Rel X M γ w) {x:Cv} {v:Value} (hx:bp M γ x v) {τ:Ty} {xs:List (El τ)}
  (h:(m.vw x).ct=some (.l τ xs)):(∃ cs,vO (Ug γ x) w τ xs v cs)/\(m.vw x).len=some xs.length :=
 Kr hm hx (fun r row hr hx=>(hR.rs r row (hm.r r row hr)).W3 fun g hg=>by simpa [Ug,hx] using hg) h
theorem EH {X:Ctx} {m M:Lk} {γ:Gh} {w:World} (hm:Le m M) (hR:Rel X M γ w) {x:Cv} {v:Value} (hx:bp M γ x v) {τ:Ty} {xs:List (El τ)} {A:Nat->Prop}
  (hA:∀ r row g,m.r r=some row->x.row=some r->R5 r row.ow (γ.O g)->A g) (h:(m.vw x).ct=some (.l τ xs)):∃ cs,vO A w τ xs v cs :=
 (Kr hm hx (fun r row hr hx=>(hR.rs r row (hm.r r row hr)).Z9 fun g hg=>hA r row g hr hx hg) h).1
def StructEq (P:Program) (t:TypeId) (ks:List Ct):Prop:=∀ (l m:List Cv) (us vs:List Value) (c:Bool) (γ:Gh) (M:Lk) (w:World),mY ks l=true->mY ks m=true->b9 M γ l us->b9 M γ m vs->yZ l m=some c ->
 (do eqGuard .eql t (.tmp 0) (.tmp 0) (.agg us.toArray) (.agg vs.toArray); Op.equal t (.agg us.toArray) (.agg vs.toArray):Sem Bool).run P w= .ok c w
structure iy (X:Ctx):Prop where
 ty:∀ e τ,lk X.ty e=some τ->∃ i,X.P.info? e=some i/\i.size=sz τ
 id:∀ e τ,lk X.ty e=some τ->X.id τ=e->∃ i z,X.P.info? e=some i/\i.zero=some z/\z.cells.toList=(cells τ (cg τ)).map gx/\i.bytes<=128
 byte:∀ e,lk X.ty e=some .byte->X.P.underlying e=some (.int .u8)
 eqs:∀ t ks,lk X.eqs t=some ks->StructEq X.P t ks
 mixed:X.P.follows .mixedOrders=true
variable {X:Ctx} {m M:Lk} {γ:Gh} {w:World} {ρ:Operand->Value}
theorem Gz {P:Program} {t:TypeId} {i:TypeInfo} (h:P.info? t=some i) (w:World):(typeInfo t).run P w= .ok i w:=by
 simp [typeInfo,h]
theorem ou {P:Program} {t:TypeId} {i:TypeInfo} (h:P.info? t=some i) (w:World):(sizeOf t).run P w= .ok i.size w:=by
 simp [sizeOf,typeInfo,h]
theorem GK {P:Program} {t:TypeId} {n:Nat} (h:fV P t=n) (hn:0<n):∃ i,P.info? t=some i/\i.size=n:=by
 unfold fV at h
 cases hi:P.info? t with
 | none=>simp [hi] at h; omega
 | some i=>exact ⟨i,rfl,by simpa [hi] using h⟩
theorem qT {a b:IntKind} (h:FE a b=true):a=b:=by cases a<;>cases b<;>first | rfl | simp [FE] at h
theorem Al {a b:Ty} (h:LU a b=true):a=b:=by cases a<;>cases b<;>first | rfl | simp [LU] at h
theorem ND (a:Ty):LU a a=true:=by cases a<;>rfl
theorem rD:∀ x y:List UInt8,(Op.bytesLess x y||x==y)= !Op.bytesLess y x
 | [],[]=>rfl
 | [],b::y=>rfl
 | a::x,[]=>rfl
 | a::x,b::y=>by
  have ih:=rD x y
  simp only [Op.bytesLess]
  by_cases h1:a<b
  ·have h2:¬ b<a:=UInt8.lt_asymm h1
   have h3:a≠b:=fun e=>UInt8.lt_irrefl _ (e▸h1)
   simp [h1,h2,h3,Ne.symm h3]
  ·by_cases h2:b<a
   ·have h3:a≠b:=fun e=>UInt8.lt_irrefl _ (e▸h2)
    simp [h1,h2,h3,Ne.symm h3]
   ·have h3:a=b:=UInt8.le_antisymm (UInt8.not_lt.1 h2) (UInt8.not_lt.1 h1)
    subst h3
    simp only [UInt8.lt_irrefl,decide_false,Bool.false_or,beq_self_eq_true,Bool.true_and]
    rw [← ih]
    simp
def Good (o:Out) (v:AV):Prop:=o= .r0 v\/o= .r true v
theorem U8 {op:BinOp} {k:IntKind} {a b:Int} {t:TypeId} {x y:Operand} {v:AV} (h:Good (mK op (.c (.i k a)) (.c (.i k b))) v) :
  ∃ u,(do eqGuard op t x y (.int k a) (.int k b); Go.binOp op t (.int k a) (.int k b):Sem Value).run X.P w= .ok u w/\bn M γ v u:=by
 have hk:FE k k=true:=by cases k<;>rfl
 cases op<;>simp only [Good,mK,Uf,hk,Out.r0.injEq,Out.r.injEq,reduceCtorEq,or_false,false_or,zD,Bool.not_eq_true',beq_eq_false_iff_ne] at h
 case quo=>obtain ⟨h0,rfl⟩:=h; exact ⟨_,by simp [eqGuard,Go.binOp,Op.intDiv,h0],rfl⟩
 case rem=>obtain ⟨h0,rfl⟩:=h; exact ⟨_,by simp [eqGuard,Go.binOp,Op.intDiv,h0],rfl⟩
 case shl=>obtain ⟨h0,rfl⟩:=h; exact ⟨_,by simp [eqGuard,Go.binOp,Op.shift,Int.not_lt.2 h0],rfl⟩
 case shr=>obtain ⟨h0,rfl⟩:=h; exact ⟨_,by simp [eqGuard,Go.binOp,Op.shift,Int.not_lt.2 h0],rfl⟩
 all_goals (subst h; exact ⟨_,by simp [eqGuard,Go.binOp,Op.intArith,Op.intBits,Op.intCmp,bne],rfl⟩)
theorem O6 {op:BinOp} {k k':IntKind} {a b:Int} {t:TypeId} {x y:Operand} {v:AV} (hk:FE k k'=false) (h:Good (mK op (.c (.i k a)) (.c (.i k' b))) v) :
  ∃ u,(do eqGuard op t x y (.int k a) (.int k' b); Go.binOp op t (.int k a) (.int k' b):Sem Value).run X.P w= .ok u w/\bn M γ v u:=by
 cases op<;>simp only [Good,mK,Uf,hk,Out.r0.injEq,Out.r.injEq,reduceCtorEq,or_false,false_or,zD,Bool.not_eq_true',beq_eq_false_iff_ne] at h
 case shl=>obtain ⟨h0,rfl⟩:=h; exact ⟨_,by simp [eqGuard,Go.binOp,Op.shift,Int.not_lt.2 h0],rfl⟩
 case shr=>obtain ⟨h0,rfl⟩:=h; exact ⟨_,by simp [eqGuard,Go.binOp,Op.shift,Int.not_lt.2 h0],rfl⟩
theorem UE {op:BinOp} {a b:ByteArray} {t:TypeId} {x y:Operand} {v:AV} (h:Good (mK op (.c (.s a)) (.c (.s b))) v) :
  ∃ u,(do eqGuard op t x y (.string a) (.string b); Go.binOp op t (.string a) (.string b):Sem Value).run X.P w= .ok u w/\bn M γ v u:=by
 have e1:(a.toList==b.toList)=(a==b):=(beq_toListBytes a b).symm
 have e2:=rD a.toList b.toList
 cases op<;>simp only [Good,mK,Xz,QA,Out.r0.injEq,Out.r.injEq,reduceCtorEq,or_false,false_or,zD] at h
 case add =>
  obtain ⟨h0,rfl⟩:=h
  have:¬ ((a.size+b.size:Nat):Int)>IntKind.i64.max:=by
   show ¬ ((a.size+b.size:Nat):Int)>9223372036854775807
   omega
  exact ⟨_,by simp only [eqGuard,Go.binOp,Op.stringOp,if_neg this]; rfl,rfl⟩
 case gtr=>subst h; exact ⟨_,by simp only [eqGuard,Go.binOp,Op.stringOp,e2]; rfl,by simp [bn,bp]⟩
 case leq=>subst h; exact ⟨_,by simp only [eqGuard,Go.binOp,Op.stringOp,e2]; rfl,by simp [bn,bp]⟩
 all_goals (subst h; exact ⟨_,by simp only [eqGuard,Go.binOp,Op.stringOp,e1]; rfl,rfl⟩)
theorem run_equal_bool {t:TypeId} (ht:X.P.underlying t=some .bool) (a b:Bool):(Op.equal t (.bool a) (.bool b)).run X.P w= .ok (a==b) w:=by
 show (Op.equalIn (9999+1) t (.bool a) (.bool b)).run X.P w=_
 rw [Op.equalIn,Sem.run_bind,run_underlying ht]
 rfl
theorem Sw {op:BinOp} {a:Bool} {b:AV} {bv:Value} {t:TypeId} {x y:Operand} {v:AV} (ht:X.P.underlying t=some .bool) (hb:bn M γ b bv) (h:Good (mK op (.c (.b a)) b) v) :
  ∃ u,(do eqGuard op t x y (.bool a) bv; Go.binOp op t (.bool a) bv:Sem Value).run X.P w= .ok u w/\bn M γ v u:=by
 cases b with
 | c y =>
  cases y with
  | b b =>
   have hb:bv= .bool b:=hb
   subst hb
   cases op<;>simp only [Good,mK,Out.r0.injEq,Out.r.injEq,reduceCtorEq,or_false,false_or] at h
   all_goals (subst h; exact ⟨_,by simp only [eqGuard,Go.binOp,Sem.run_bind,zM,Bool.false_eq_true,if_false,Sem.run_pure,Result.andThen_ok,run_equal_bool ht],rfl⟩)
  | _=>simp [Good,mK] at h
 | _=>simp [Good,mK] at h
theorem Uh (hX:iy X) {op:BinOp} {a:List Cv} {b:AV} {av bv:Value} {t:TypeId} {x y:Operand} {v:AV} {ks:List Ct} (ht:lk X.eqs t=some ks) (vN:mY ks a=true) (rW:∀ m,b= .a m->mY ks m=true) (ha:bn M γ (.a a) av) (hb:bn M γ b bv)
  (h:Good (mK op (.a a) b) v):∃ u,(do eqGuard op t x y av bv; Go.binOp op t av bv:Sem Value).run X.P w= .ok u w/\bn M γ v u:=by
 cases b with
 | a m =>
  obtain ⟨us,rfl,hu⟩:=ha
  obtain ⟨vs,rfl,hv⟩:=hb
  have key:∀ c,yZ a m=some c->(eqGuard .eql t (.tmp 0) (.tmp 0) (.agg us.toArray) (.agg vs.toArray) >>= fun _=>Op.equal t (.agg us.toArray) (.agg vs.toArray)).run X.P w= .ok c w :=
   fun c hc=>hX.eqs t ks ht a m us vs c γ M w vN (rW m rfl) hu hv hc
  have g1:∀ op x y,(op= .eql\/op= .neq)->eqGuard op t x y (.agg us.toArray) (.agg vs.toArray)=eqGuard .eql t (.tmp 0) (.tmp 0) (.agg us.toArray) (.agg vs.toArray):=by
   intro op x y ho; rcases ho with rfl | rfl<;>simp [eqGuard]
  cases hc:yZ a m with
  | none=>cases op<;>simp [Good,mK,hc] at h
  | some c =>
   have key:=key c hc
   simp only [Sem.run_bind] at key
   cases op<;>simp only [Good,mK,hc,Out.r0.injEq,Out.r.injEq,reduceCtorEq,or_false,false_or] at h
   case eql =>
    subst h
    refine ⟨_,?_,rfl⟩
    rw [g1 _ x y (.inl rfl)]
    simp only [Go.binOp,Sem.run_bind]
    cases hg:(eqGuard .eql t (.tmp 0) (.tmp 0) (.agg us.toArray) (.agg vs.toArray)).run X.P w with
    | halt hh w'=>rw [hg] at key; simp at key
    | ok z w' =>
     rw [hg] at key
     simp only [Result.andThen_ok] at key ⊢
     rw [key]; rfl
   case neq =>
    subst h
    refine ⟨_,?_,rfl⟩
    rw [g1 _ x y (.inr rfl)]
    simp only [Go.binOp,Sem.run_bind]
    cases hg:(eqGuard .eql t (.tmp 0) (.tmp 0) (.agg us.toArray) (.agg vs.toArray)).run X.P w with
    | halt hh w'=>rw [hg] at key; simp at key
    | ok z w' =>
     rw [hg] at key
     simp only [Result.andThen_ok] at key ⊢
     rw [key]; rfl
 | _=>simp [Good,mK] at h
theorem je (g o n:Nat):(⟨g,o,none⟩:Addr).add n=⟨g,o+n,none⟩:=by
 unfold Addr.add; split<;>simp_all
def vT (v:Value) (n:Nat):Prop:=(v= .slice none 0 0/\n=0)\/∃ g o cap,v= .slice (some ⟨g,o,none⟩) n cap/\n<=cap
theorem zz.Ip {A:Nat->Prop} {z:Nat} {v:Value} {n:Nat} {cs:List Value} (h:zz A w z v n cs):vT v n:=by
 rcases h.2 with h | ⟨g,o,cap,cur,e,fz,hv,_,_,hn,_⟩
 ·exact .inl h
 ·exact .inr ⟨g,o,cap,hv,hn⟩
theorem vT.sub {z:Nat} {b v:Value} {off len n:Nat} (hs:Aw z b off len v):vT v len:=by
 rcases hs with ⟨_,hv,h0⟩ | ⟨g,o,n',cap,o',cap',_,hv,hl,_⟩
 ·exact .inl ⟨hv,h0⟩
 ·exact .inr ⟨g,o',cap',hv,hl.1⟩
theorem vT.self {z:Nat} {b:Value} {n:Nat} (h:vT b n):Aw z b 0 n b:=by
 rcases h with ⟨rfl,rfl⟩ | ⟨g,o,cap,rfl,hn⟩
 ·exact .inl ⟨rfl,rfl,rfl⟩
 ·exact .inr ⟨g,o,n,cap,o,cap,rfl,rfl,⟨hn,by simp⟩,Nat.le_refl _,by simp,.inr (by simp)⟩
theorem uj (hm:Le m M) (hR:Rel X M γ w) {x:Cv} {v:Value} (hx:bp M γ x v) {n:Nat} (h:(m.vw x).len=some n):vT v n:=by
 cases x with
 | nl σ=>simp only [Lk.vw,Vw.len,zA] at h; subst h; exact .inl ⟨hx,rfl⟩
 | sw r =>
  simp only [Lk.vw] at h
  cases hr:m.r r with
  | none=>simp [hr,Vw.len] at h
  | some row =>
   simp only [hr,Vw.len,zA] at h; subst h
   obtain ⟨_,rfl⟩:=hx
   exact (hR.rs r row (hm.r r row hr)).top.ze.Ip
 | sl r off len =>
  simp only [Lk.vw] at h
  cases hr:m.r r with
  | none=>simp [hr,Vw.len] at h
  | some row =>
   simp only [hr,Vw.len,zA] at h; subst h
   obtain ⟨_,_,_,hs⟩:=hx
   exact vT.sub (n:=0) hs
 | nw r e c =>
  simp only [Lk.vw,ij] at h
  cases hr:m.r r with
  | none=>simp [hr,Vw.len] at h
  | some row =>
   obtain ⟨row',τ',ys,cy,he,hc,hu⟩:=hx
   have fO:=hm.r r row hr
   rw [fO] at cy; cases cy
   simp only [hr,hc,Vw.len,zA] at h; subst h
   obtain ⟨u',oT,eD⟩:=(hR.rs r row fO).rA e c _ he hc
   rw [hu] at oT; cases oT
   exact eD.2.ze.Ip
 | ns r e c off len =>
  simp only [Lk.vw,ij] at h
  cases hr:m.r r with
  | none=>simp [hr,Vw.len] at h
  | some row =>
   obtain ⟨row',τ',ys,u,cy,he,hc,hu,hle,hs⟩:=hx
   have fO:=hm.r r row hr
   rw [fO] at cy; cases cy
   simp only [hr,hc,Vw.len,zA] at h; subst h
   exact vT.sub (n:=0) hs
 | _=>simp [Lk.vw,Vw.len] at h
theorem qS {z:Nat} {b v:Value} {off len l k:Nat} (hs:Aw z b off len v) (hl:l+k<=len) :
  ∃ a cap,v= .slice a len cap/\len<=cap/\Aw z b (off+l) k (sliced a l (l+k) cap z):=by
 rcases hs with ⟨hb,hv,h0⟩ | ⟨g,o,n',cap,o',cap',hb,hv,Vt,SO,XU,Zh⟩
 ·subst hv; subst h0
  obtain ⟨rfl,rfl⟩:l=0/\k=0:=by omega
  exact ⟨none,0,rfl,Nat.le_refl _,.inl ⟨hb,by simp [sliced],rfl⟩⟩
 ·refine ⟨_,_,hv,Vt.1,?_⟩
  have afU:=Vt.1
  have afi:=Vt.2
  simp only [sliced]
  by_cases hc:cap'=l
  ·have hk:k=0:=by omega
   subst hk
   rw [if_pos hc]
   refine .inr ⟨g,o,n',cap,o',cap'-l,hb,by simp,⟨by omega,by omega⟩,SO,?_,.inl rfl⟩
   have:=zP z (show off<=off+l by omega)
   omega
  ·rw [if_neg hc]
   refine .inr ⟨g,o,n',cap,o'+l*z,cap'-l,hb,by simp [je],⟨by omega,by omega⟩,by omega,?_,?_⟩
   ·rw [Nat.add_mul]; omega
   ·rcases Zh with h0 | h0
    ·left; omega
    ·right; rw [Nat.add_mul]; omega
def Hh (x:Cv) (l k:Nat):AV:=match x with
 | .sw r=> .c (.sl r l k) | .sl r off _=> .c (.sl r (off+l) k) | .nw r e c=> .c (.ns r e c l k) | .ns r e c off _=> .c (.ns r e c (off+l) k) | .nl τ=> .c (.nl τ) | _=> .c .un
theorem Fa (hm:Le m M) (hR:Rel X M γ w) {x:Cv} {v:Value} (hx:bp M γ x v) {n:Nat} (h:(m.vw x).len=some n) {τ:Ty} (ht:(m.vw x).ty=some τ) {l k:Nat} (hl:l+k<=n) :
  ∃ a cap,v= .slice a n cap/\n<=cap/\bn M γ (Hh x l k) (sliced a l (l+k) cap (sz τ)):=by
 have hs:=uj hm hR hx h
 cases x with
 | nl σ =>
  simp only [Lk.vw,Vw.len,zA,List.length_nil] at h; subst h
  obtain ⟨rfl,rfl⟩:l=0/\k=0:=by omega
  have hx:v= .slice none 0 0:=hx
  exact ⟨none,0,hx,Nat.le_refl _,by simp [Hh,bn,bp,sliced]⟩
 | sw r =>
  simp only [Lk.vw] at h ht
  cases hr:m.r r with
  | none=>simp [hr,Vw.len] at h
  | some row =>
   simp only [hr,Vw.len,Vw.ty,zA] at h ht; subst h; subst ht
   obtain ⟨_,rfl⟩:=hx
   obtain ⟨a,cap,h1,h2,h3⟩:=qS (z:=sz row.τ) hs.self hl
   exact ⟨a,cap,h1,h2,row,hm.r r row hr,hl,by simpa using h3⟩
 | sl r off len =>
  simp only [Lk.vw] at h ht
  cases hr:m.r r with
  | none=>simp [hr,Vw.len] at h
  | some row =>
   simp only [hr,Vw.len,Vw.ty,zA] at h ht; subst h; subst ht
   obtain ⟨row',cy,hle,rU⟩:=hx
   rw [hm.r r row hr] at cy; cases cy
   obtain ⟨a,cap,h1,h2,h3⟩:=qS rU hl
   exact ⟨a,cap,h1,h2,row,hm.r r row hr,by omega,h3⟩
 | nw r e c =>
  simp only [Lk.vw,ij] at h ht
  cases hr:m.r r with
  | none=>simp [hr,Vw.len] at h
  | some row =>
   obtain ⟨row',τ',ys,cy,he,hc,hu⟩:=hx
   rw [hm.r r row hr] at cy; cases cy
   simp only [hr,hc,Vw.len,Vw.ty,zA] at h ht; subst h; subst ht
   obtain ⟨a,cap,h1,h2,h3⟩:=qS (z:=sz τ') hs.self hl
   exact ⟨a,cap,h1,h2,row,τ',ys,v,hm.r r row hr,he,hc,hu,hl,by simpa using h3⟩
 | ns r e c off len =>
  simp only [Lk.vw,ij] at h ht
  cases hr:m.r r with
  | none=>simp [hr,Vw.len] at h
  | some row =>
   obtain ⟨row',τ',ys,u,cy,he,hc,hu,hle,rU⟩:=hx
   rw [hm.r r row hr] at cy; cases cy
   simp only [hr,hc,Vw.len,Vw.ty,zA] at h ht; subst h; subst ht
   obtain ⟨a,cap,h1,h2,h3⟩:=qS rU hl
   exact ⟨a,cap,h1,h2,row,τ',ys,u,hm.r r row hr,he,hc,hu,by omega,h3⟩
 | _=>simp [Lk.vw,Vw.len] at h
theorem F8 {P:Program} {t:TypeId} {n:Nat} (h:AI P t=n) (hn:0<n):∃ e i,P.underlying t=some (.slice e)/\P.info? e=some i/\i.size=n:=by
 simp only [AI,Pr] at h
 revert h; split<;>intro h
 ·rename_i e he
  obtain ⟨i,hi,hs⟩:=GK h hn
  revert he; split<;>intro he
  ·cases he; exact ⟨_,i,by assumption,hi,hs⟩
  ·cases he
 ·omega
theorem uQ {P:Program} {t e:TypeId} (h:P.underlying t=some (.slice e)):P.elem t=e:=by simp [Program.elem,h]
theorem aF {a b:Nat} (h:Nat.beq a b=true):a=b:=Nat.eq_of_beq_eq_true h
theorem uq {P:Program} (w:World) (t:TypeId) (s:ByteArray) (ht:P.underlying t=some .string) (kl kh:IntKind) (l h:Int) (h0:0<=l) (h1:l<=h) (h2:h<=s.size) :
  (Instr.slice t (.string s) (some (.int kl l)) (some (.int kh h)) none).run P w= .ok (.string (s.extract l.toNat h.toNat)) w:=by
 have eh:(h.toNat:Int)=h:=Int.toNat_of_nonneg (by omega)
 simp [Instr.slice,run_underlying ht,Instr.sliceBounds,run_sliceBound,h0,h1,h2,eh,(by omega:0<=h)]
theorem IH (m:Lk) (x:Cv) (hx:∀ a,x≠ .s a) (lo hi:Option Int):m.oG (.c x) lo hi=match (m.vw x).len with
  | none=> .no
  | some n=>match lo,hi with
   | none,none=> .r0 (.c x)
   | some l,none=> .r (decide (0<=l)&&decide (l<=(n:Int))) (Hh x l.toNat (n-l.toNat))
   | none,some h=> .r (decide (0<=h)&&decide (h<=(n:Int))) (Hh x 0 h.toNat)
   | some l,some h=> .r (decide (0<=l)&&(decide (l<=h)&&decide (h<=(n:Int)))) (Hh x l.toNat (h.toNat-l.toNat)):=by
 cases x<;>first | (exact absurd rfl (hx _)) | rfl
theorem O4 (hm:Le m M) (hR:Rel X M γ w) {t:TypeId} {x:AV} {xv:Value} (hx:bn M γ x xv) {lo hi:Option Int} {kl kh:IntKind} {v:AV} (MX:m.jX X.P t x=true)
  (h:Good (m.oG x lo hi) v) :
  ∃ u,(Instr.sliceAt t xv (lo.map (.int kl)) (hi.map (.int kh)) none).run X.P w= .ok u w/\bn M γ v u:=by
 have main:∀ x:Cv,x≠ .un->(∀ a,x≠ .s a)->bp M γ x xv->m.jX X.P t (.c x)=true->Good (m.oG (.c x) lo hi) v ->
   ∃ u,(Instr.sliceAt t xv (lo.map (.int kl)) (hi.map (.int kh)) none).run X.P w= .ok u w/\bn M γ v u:=by
  intro x FJ hns hx MX h
  have hc:(match (m.vw x).ty with | some τ=>Nat.beq (sz τ) (AI X.P t) | none=>false)=true:=by
   revert MX; cases x<;>first | (exact absurd rfl (hns _)) | exact id
  rw [IH m x hns] at h
  cases SZ:(m.vw x).ty with
  | none=>simp [SZ] at hc
  | some τ =>
   simp only [SZ] at hc
   obtain ⟨e,i,he,rT,hs⟩:=F8 (aF hc).symm (oE τ)
   have het:X.P.underlying t=some (.slice (X.P.elem t)):=by rw [uQ he]; exact he
   have rH:∀ w,(sizeOf (X.P.elem t)).run X.P w= .ok (sz τ) w:=fun w=>by rw [uQ he,ou rT w,hs]
   cases hlen:(m.vw x).len with
   | none=>simp [hlen,Good] at h
   | some n =>
    simp only [hlen] at h
    rw [run_sliceAt_slice w t _ _ _ _ het]
    cases lo with
    | none =>
     cases hi with
     | none =>
      simp only [Good,Out.r0.injEq,reduceCtorEq,or_false] at h; subst h
      rcases uj hm hR hx hlen with ⟨rfl,rfl⟩ | ⟨g,o,cap,rfl,hn⟩
      ·exact ⟨_,by simp only [Option.map]; rw [run_slice_all w t _ _ _ het,rH]; simp [sliced],bn.of hx⟩
      ·exact ⟨_,by simp only [Option.map]; rw [run_slice_all w t _ _ _ het,rH]; simp [sliced,je],bn.of hx⟩
     | some hh =>
      simp only [Good,Out.r.injEq,reduceCtorEq,false_or,zB,zD] at h
      obtain ⟨⟨h0,h1⟩,rfl⟩:=h
      obtain ⟨a,cap,rfl,hn,hr⟩:=Fa hm hR hx hlen SZ (l:=0) (k:=hh.toNat) (by omega)
      exact ⟨_,by simp only [Option.map]; rw [run_slice_h w t _ _ _ het _ _ h0 (by omega),rH]; rfl,by simpa using hr⟩
    | some l =>
     cases hi with
     | none =>
      simp only [Good,Out.r.injEq,reduceCtorEq,false_or,zB,zD] at h
      obtain ⟨⟨h0,h1⟩,rfl⟩:=h
      obtain ⟨a,cap,rfl,hn,hr⟩:=Fa hm hR hx hlen SZ (l:=l.toNat) (k:=n-l.toNat) (by omega)
      exact ⟨_,by simp only [Option.map]; rw [run_slice_l w t _ _ _ het _ _ h0 (by omega),rH]; rfl,by rw [show l.toNat+(n-l.toNat)=n by omega] at hr; exact hr⟩
     | some hh =>
      simp only [Good,Out.r.injEq,reduceCtorEq,false_or,zB,zD] at h
      obtain ⟨⟨h0,h1,h2⟩,rfl⟩:=h
      obtain ⟨a,cap,rfl,hn,hr⟩:=Fa hm hR hx hlen SZ (l:=l.toNat) (k:=hh.toNat-l.toNat) (by omega)
      exact ⟨_,by simp only [Option.map]; rw [run_slice_lh w t _ _ _ het _ _ _ _ h0 h1 (by omega),rH]; rfl,by rw [show l.toNat+(hh.toNat-l.toNat)=hh.toNat by omega] at hr; exact hr⟩
 cases x with
 | c x =>
  cases x with
  | s a =>
   have hx:xv= .string a:=hx
   subst hx
   have pO:X.P.underlying t=some .string:=by
    revert MX; simp only [Lk.jX,isStr]; split
    ·exact fun _=>by assumption
    ·simp
   rw [run_sliceAt_string w t _ _ _ _ pO]
   cases lo with
   | none =>
    cases hi with
    | none =>
     simp only [Good,Lk.oG,Out.r0.injEq,reduceCtorEq,or_false] at h; subst h
     exact ⟨_,by simp only [Option.map]; rw [run_slice_string_all w t a pO],rfl⟩
    | some hh =>
     simp only [Good,Lk.oG,Out.r.injEq,reduceCtorEq,false_or,zB,zD] at h
     obtain ⟨⟨h0,h1⟩,rfl⟩:=h
     exact ⟨_,by simp only [Option.map]; rw [run_slice_string_h w t a pO _ _ h0 h1],rfl⟩
   | some l =>
    cases hi with
    | none =>
     simp only [Good,Lk.oG,Out.r.injEq,reduceCtorEq,false_or,zB,zD] at h
     obtain ⟨⟨h0,h1⟩,rfl⟩:=h
     exact ⟨_,by simp only [Option.map]; rw [run_slice_string_l w t a pO _ _ h0 h1],rfl⟩
    | some hh =>
     simp only [Good,Lk.oG,Out.r.injEq,reduceCtorEq,false_or,zB,zD] at h
     obtain ⟨⟨h0,h1,h2⟩,rfl⟩:=h
     exact ⟨_,by simp only [Option.map]; rw [uq w t a pO _ _ _ _ h0 h1 h2],rfl⟩
  | un=>simp [Lk.jX,Lk.vw,Vw.ty] at MX
  | _=>exact main _ (by simp) (by simp) hx MX h
 | _=>simp [Lk.jX] at MX
theorem OH (hm:Le m M) (hR:Rel X M γ w) {t:TypeId} {x:Cv} {xv:Value} (hx:bp M γ x xv) {i:Int} {k:IntKind} {v:AV} (h:Good (m.qo x i (AI X.P t)) v) :
  ∃ u,(Instr.indexAt t xv (.int k i)).run X.P w= .ok u w/\bn M γ v u:=by
 have idx:∀ (τ:Ty) (g o n cap:Nat),Nat.beq (sz τ) (AI X.P t)=true->0<=i->i<(n:Int) ->
   (Instr.indexAt t (.slice (some ⟨g,o,none⟩) n cap) (.int k i)).run X.P w= .ok (.pointer (some ⟨g,o+i.toNat*sz τ,none⟩)) w:=by
  intro τ g o n cap hz h0 h1
  obtain ⟨e,inf,he,rT,hs⟩:=F8 (aF hz).symm (oE τ)
  simp [Instr.indexAt,asIntOf,run_underlying he,h0,h1,ou rT,hs,je]
 cases x with
 | sw r =>
  simp only [Lk.qo,Lk.vw] at h
  cases hr:m.r r with
  | none=>simp [hr,Good] at h
  | some row =>
   simp only [hr] at h
   cases hz:Nat.beq (sz row.τ) (AI X.P t) with
   | false=>simp [hz,Good] at h
   | true =>
    simp only [hz,Good,Out.r.injEq,reduceCtorEq,false_or,aZ,zB,zD] at h
    obtain ⟨⟨h0,h1⟩,rfl⟩:=h
    have hs:=uj hm hR hx (n:=row.xs.length) (by simp [Lk.vw,hr,Vw.len])
    rcases hs with ⟨_,hn⟩ | ⟨g,o,cap,rfl,hn⟩
    ·omega
    ·refine ⟨_,idx row.τ g o _ cap hz h0 h1,row,hm.r r row hr,by omega,g,o,row.xs.length,cap,hx.2.symm,by simp⟩
 | sl r off len =>
  simp only [Lk.qo,Lk.vw] at h
  cases hr:m.r r with
  | none=>simp [hr,Good] at h
  | some row =>
   simp only [hr] at h
   cases hz:Nat.beq (sz row.τ) (AI X.P t) with
   | false=>simp [hz,Good] at h
   | true =>
    simp only [hz,Good,Out.r.injEq,reduceCtorEq,false_or,aZ,zB,zD] at h
    obtain ⟨⟨h0,h1⟩,rfl⟩:=h
    obtain ⟨row',cy,hle,rU⟩:=hx
    rw [hm.r r row hr] at cy; cases cy
    rcases rU with ⟨_,_,hn⟩ | ⟨g,o,n',cap,o',cap',hb,rfl,Vt,_,_,ho⟩
    ·omega
    ·refine ⟨_,idx row.τ g o' len cap' hz h0 h1,row,hm.r r row hr,by omega,g,o,n',cap,hb,?_⟩
     rcases ho with ho | ho
     ·omega
     ·rw [ho,Nat.add_mul]; simp [Nat.add_assoc]
 | nw r e c =>
  simp only [Lk.qo,Lk.vw,ij] at h
  cases hr:m.r r with
  | none=>simp [hr,Good] at h
  | some row =>
   have zm:=hx
   obtain ⟨row',τ',ys,cy,he,hc,hu⟩:=hx
   rw [hm.r r row hr] at cy; cases cy
   simp only [hr,hc] at h
   cases hz:Nat.beq (sz τ') (AI X.P t) with
   | false=>simp [hz,Good] at h
   | true =>
    simp only [hz,Good,Out.r.injEq,reduceCtorEq,false_or,aZ,zB,zD] at h
    obtain ⟨⟨h0,h1⟩,rfl⟩:=h
    have hs:=uj hm hR zm (n:=ys.length) (by simp [Lk.vw,hr,ij,hc,Vw.len])
    rcases hs with ⟨_,hn⟩ | ⟨g,o,cap,rfl,hn⟩
    ·omega
    ·exact ⟨_,idx τ' g o _ cap hz h0 h1,row,τ',ys,_,hm.r r row hr,he,hc,hu,by omega,g,o,_,cap,rfl,by simp⟩
 | ns r e c off len =>
  simp only [Lk.qo,Lk.vw,ij] at h
  cases hr:m.r r with
  | none=>simp [hr,Good] at h
  | some row =>
   obtain ⟨row',τ',ys,u,cy,he,hc,hu,hle,rU⟩:=hx
   rw [hm.r r row hr] at cy; cases cy
   simp only [hr,hc] at h
   cases hz:Nat.beq (sz τ') (AI X.P t) with
   | false=>simp [hz,Good] at h
   | true =>
    simp only [hz,Good,Out.r.injEq,reduceCtorEq,false_or,aZ,zB,zD] at h
    obtain ⟨⟨h0,h1⟩,rfl⟩:=h
    rcases rU with ⟨_,_,hn⟩ | ⟨g,o,n',cap,o',cap',hb,rfl,Vt,_,_,ho⟩
    ·omega
    ·refine ⟨_,idx τ' g o' len cap' hz h0 h1,row,τ',ys,u,hm.r r row hr,he,hc,hu,by omega,g,o,n',cap,hb,?_⟩
     rcases ho with ho | ho
     ·omega
     ·rw [ho,Nat.add_mul]; simp [Nat.add_assoc]
 | _=>simp [Lk.qo,Good] at h
theorem Ph {t:TypeId} {f n:Nat} {a:Cv} {av:Value} (ha:bp M γ a av) (hf:xR X.P t f=some n) (hz:Nat.beq (fV X.P (Co X.P t f)) 0=false) (FJ:Iu a n≠ .un) :
  ∃ u,(Instr.fieldAt t av f).run X.P w= .ok u w/\bp M γ (Iu a n) u:=by
 obtain ⟨fs,x,hu,hx,rfl⟩:∃ fs x,X.P.underlying t=some (.struct fs)/\fs[f]? =some x/\x.offset=n:=by
  revert hf; simp only [xR]; split
  ·rename_i fs QD
   split
   ·rename_i x hx; intro h; exact ⟨fs,x,QD,hx,by simpa using h⟩
   ·simp
  ·simp
 have SZ:Co X.P t f=x.type:=by simp [Co,hu,hx]
 have mn:∃ i,X.P.info? x.type=some i/\i.size≠0:=by
  rw [SZ] at hz
  simp only [fV] at hz
  cases hi:X.P.info? x.type with
  | none=>simp [hi] at hz
  | some i=>exact ⟨i,rfl,fun h0=>by rw [hi] at hz; simp [h0] at hz⟩
 obtain ⟨i,hi,JD⟩:=mn
 have run:∀ a:Addr,(Instr.fieldAt t (.pointer (some a)) f).run X.P w= .ok (.pointer (some (a.add x.offset))) w:=by
  intro a
  simp [Instr.fieldAt,run_underlying hu,hx,Instr.sureAddr,fieldPlace,ou hi,JD]
 cases a with
 | pv k c =>
  obtain ⟨h1,rfl⟩:=ha
  exact ⟨_,run _,h1,by rw [je]⟩
 | pe r e c =>
  obtain ⟨row,h1,h2,g,o,n,cap,h3,rfl⟩:=ha
  exact ⟨_,run _,row,h1,h2,g,o,n,cap,h3,by rw [je]; simp [Nat.add_assoc]⟩
 | pn r e c k d =>
  obtain ⟨row,τ,ys,u,h1,h2,h3,h4,h5,g,o,n,cap,h6,rfl⟩:=ha
  exact ⟨_,run _,row,τ,ys,u,h1,h2,h3,h4,h5,g,o,n,cap,h6,by rw [je]; simp [Nat.add_assoc]⟩
 | _=>simp [Iu] at FJ
theorem b9.length {l:List Cv} {u:List Value} (h:b9 M γ l u):l.length=u.length:=by
 induction h with
 | nil=>rfl
 | cons _ _ ih=>simp [ih]
theorem b9.drop {l:List Cv} {u:List Value} (h:b9 M γ l u):∀ n,b9 M γ (l.drop n) (u.drop n):=by
 induction h with
 | nil=>intro n; simpa using b9.nil
 | cons hx hl ih=>intro n; cases n with
  | zero=>exact .cons hx hl
  | succ n=>simpa using ih n
theorem b9.take {l:List Cv} {u:List Value} (h:b9 M γ l u):∀ n,b9 M γ (l.take n) (u.take n):=by
 induction h with
 | nil=>intro n; simpa using b9.nil
 | cons hx hl ih=>intro n; cases n with
  | zero=>exact .nil
  | succ n=>simpa using b9.cons hx (ih n)
theorem b9.append {l l':List Cv} {u u':List Value} (h:b9 M γ l u) (h':b9 M γ l' u'):b9 M γ (l++l') (u++u'):=by
 induction h with
 | nil=>exact h'
 | cons hx hl ih=>exact .cons hx ih
theorem b9.get {l:List Cv} {u:List Value} (h:b9 M γ l u) {i:Nat} {x:Cv} (hx:l[i]? =some x):∃ v,u[i]? =some v/\bp M γ x v:=by
 induction h generalizing i with
 | nil=>simp at hx
 | cons zm hl ih=>cases i with
  | zero=>simp at hx; subst hx; exact ⟨_,rfl,zm⟩
  | succ i=>exact ih hx
theorem b9.vH {l:List Cv}:∀ {u:List Value},l.length=u.length->(∀ (i:Nat) (x:Cv) (v:Value),l[i]? =some x->u[i]? =some v->bp M γ x v)->b9 M γ l u:=by
 induction l with
 | nil=>intro u hl _; cases u with | nil=>exact .nil | cons=>simp at hl
 | cons x l ih=>intro u hl h; cases u with
  | nil=>simp at hl
  | cons v u=>exact .cons (h 0 x v rfl rfl) (ih (by simpa using hl) fun i x v hx hv=>h (i+1) x v hx hv)
theorem BO {g o:Nat} {cur:Array Value} {e:TypeId} {fz:Nat×Nat} (h:w.heap[g]? =some (.cells cur e fz)) (i:Nat):w.cell? ⟨g,i,none⟩=cur[i]? :=by
 simp [World.cell?,h]
theorem zz.cell {A:Nat->Prop} {z:Nat} {v:Value} {n:Nat} {cs:List Value} (h:zz A w z v n cs) {g o n' cap:Nat} (hv:v= .slice (some ⟨g,o,none⟩) n' cap) {i:Nat} {u:Value}
  (hu:cs[i]? =some u):w.cell? ⟨g,o+i,none⟩=some u:=by
 rcases h.2 with ⟨hn,_⟩ | ⟨g1,o1,cap1,cur,e,fz,HO,hg,_,_,mn,ht⟩
 ·rw [hn] at hv; cases hv
 ·rw [HO] at hv
  obtain ⟨rfl,rfl⟩:g1=g/\o1=o:=by
   injection hv with h1 _ _; injection h1 with h1; injection h1 with h1 h2 _; exact ⟨h1,h2⟩
  have hi:i<n*z:=by
   have:=(zU.1 hu).1
   rwa [h.1] at this
  rw [BO (o:=0) hg,← hu,← ht,List.getElem?_take,if_pos hi,List.getElem?_drop,Array.getElem?_toList]
theorem Dd (r e:Nat):∀ (l:List Ct) (c i:Nat),(sS r e c l)[i]? =(l[i]?).map (Xk r e (c+i)):=by
 intro l
 induction l with
 | nil=>intro c i; simp [sS]
 | cons x l ih=>intro c i; cases i with
  | zero=>simp [sS]
  | succ i=>simp [sS,ih,Nat.add_assoc,Nat.add_comm 1]
theorem wC (r e:Nat):∀ (l:List Ct) (c:Nat),(sS r e c l).length=l.length:=by
 intro l
 induction l with
 | nil=>intro c; rfl
 | cons x l ih=>intro c; simp [sS,ih]
theorem MB (hR:Rel X M γ w) {r e:Nat} {row:Row} (hr:M.r r=some row) (he:e<row.xs.length) :
  b9 M γ (sS r e 0 (row.cs e)) (((γ.cv r).drop (e*sz row.τ)).take (sz row.τ)):=by
 have hl:(γ.cv r).length=row.xs.length*sz row.τ:=(hR.rs r row hr).top.ze.1
 have hle:(e+1)*sz row.τ<=row.xs.length*sz row.τ:=zP _ he
 rw [Nat.add_mul] at hle
 have Nj:(row.cs e).length=sz row.τ:=bc _ _
 apply b9.vH
 ·rw [wC,Nj,List.length_take,List.length_drop]; omega
 ·intro i x v hx hv
  rw [Dd,Nat.zero_add] at hx
  cases hc:(row.cs e)[i]? with
  | none=>simp [hc] at hx
  | some ct =>
   simp [hc] at hx; subst hx
   obtain ⟨u,hu,KL⟩:=(hR.rs r row hr).rA e i ct he hc
   have hi:i<sz row.τ:=by have:=(zU.1 hc).1; rwa [Nj] at this
   have:v=u:=by
    rw [List.getElem?_take,if_pos hi,List.getElem?_drop,hu] at hv; exact (Option.some.inj hv).symm
   subst this
   cases ct with
   | u=>exact KL.elim
   | l τ ys=>exact ⟨row,τ,ys,hr,he,hc,hu⟩
   | _=>exact KL
theorem Jd {τ:Ty} (hd:τ.deep=false) (y:El τ):b9 M γ (sS 0 0 0 (cells τ y)) ((cells τ y).map gx):=by
 apply b9.vH
 ·rw [wC,List.length_map]
 ·intro i x v hx hv
  rw [Dd] at hx
  rw [List.getElem?_map] at hv
  cases hc:(cells τ y)[i]? with
  | none=>simp [hc] at hx
  | some ct =>
   simp [hc] at hx hv; subst hx; subst hv
   have hm:=List.mem_of_getElem? hc
   cases ct with
   | u=>exact absurd hm (xH _)
   | l σ ys=>exact absurd rfl (oF hd _ _ hm σ ys)
   | _=>rfl
theorem Kp (hm:Le m M) (hR:Rel X M γ w) {a:Cv} {av:Value} (ha:bp M γ a av) {cs:List Cv} (h:m.from a=some cs) :
  ∃ g o us,av= .pointer (some ⟨g,o,none⟩)/\b9 M γ cs us/\∀ j u,us[j]? =some u->w.cell? ⟨g,o+j,none⟩=some u:=by
 cases a with
 | pv k c =>
  simp only [Lk.from] at h
  cases hv:m.v k with
  | none=>simp [hv] at h
  | some cells =>
   simp only [hv,zA] at h; subst h
   obtain ⟨_,rfl⟩:=ha
   obtain ⟨_,cur,e,hg,oU⟩:=hR.vs k cells (hm.v k cells hv)
   refine ⟨_,_,cur.toList.drop c,rfl,oU.drop c,fun j u hu=> ?_⟩
   rw [BO (o:=0) hg]; simpa using hu
 | pe r e c =>
  simp only [Lk.from] at h
  cases hr:m.r r with
  | none=>simp [hr] at h
  | some row =>
   simp only [hr,zA] at h; subst h
   obtain ⟨row',cy,he,g,o,n,cap,hb,rfl⟩:=ha
   have fO:=hm.r r row hr
   rw [fO] at cy; cases cy
   refine ⟨_,_,_,rfl,(MB hR fO he).drop c,fun j u hu=> ?_⟩
   rw [List.getElem?_drop,List.getElem?_take] at hu
   split at hu
   ·rw [List.getElem?_drop] at hu
    have:=(hR.rs r row fO).top.ze.cell hb hu
    rw [← this]; congr 2; omega
   ·cases hu
 | pn r e c k d =>
  simp only [Lk.from,Lk.vw,ij] at h
  cases hr:m.r r with
  | none=>simp [hr] at h
  | some row =>
   obtain ⟨row',τ',ys,u,cy,he,hc,hu,hk,g,o,n,cap,hb,rfl⟩:=ha
   have fO:=hm.r r row hr
   rw [fO] at cy; cases cy
   simp only [hr,hc] at h
   obtain ⟨u',oT,hd,hs⟩:=(hR.rs r row fO).rA e c _ he hc
   rw [hu] at oT; cases oT
   simp only [hd,zA] at h; subst h
   refine ⟨_,_,_,rfl,(Jd hd _).drop d,fun j v hv=> ?_⟩
   rw [List.getElem?_drop,List.getElem?_map] at hv
   cases dg:(cells τ' (ys.getD k (cg τ')))[d+j]? with
   | none=>rw [dg] at hv; simp at hv
   | some ct =>
    have XN:d+j<sz τ':=by have:=(zU.1 dg).1; rwa [bc] at this
    have hf:=fA τ' ys k (d+j) hk XN
    rw [dg] at hf hv
    simp at hv; subst hv
    have:=hs.ze.cell hb hf
    rw [← this]; congr 2; omega
 | _=>simp [Lk.from] at h
theorem yB {P:Program} {t:TypeId} {d:TypeDesc} (h:P.underlying t=some d):∃ i,P.info? t=some i:=by
 cases hi:P.info? t with
 | some i=>exact ⟨i,rfl⟩
 | none=>exfalso; revert h; simp [Program.underlying,hi]
theorem Hb {P:Program} {t:TypeId} {w:World} {i:TypeInfo} (hi:P.info? t=some i) (hu:∃ d,P.underlying t=some d):(isAgg t).run P w= .ok (BL P t) w:=by
 obtain ⟨d,hd⟩:=hu
 simp only [isAgg,Sem.run_bind,run_underlying hd,Result.andThen_ok,BL,hd]
 cases d<;>rfl
theorem GL {P:Program} {t:TypeId} (h:CI P t=true):(∃ d,P.underlying t=some d)/\(BL P t=false->fV P t=1):=by
 simp only [CI] at h
 simp only [BL]
 cases hd:P.underlying t with
 | none=>simp [hd] at h
 | some d =>
  refine ⟨⟨d,rfl⟩,fun ha=> ?_⟩
  rw [hd] at h
  cases d<;>first | (exact aF h) | (simp at ha)
theorem KD (hm:Le m M) (hR:Rel X M γ w) {t:TypeId} {a:Cv} {av:Value} (ha:bp M γ a av) {cs:List Cv} (h:m.from a=some cs) (hz:Nat.ble (fV X.P t) cs.length=true)
  (V4:CI X.P t=true):∃ u,(Instr.loadAt t av).run X.P w= .ok u w/\bn M γ (Us (BL X.P t) (cs.take (fV X.P t))) u:=by
 obtain ⟨g,o,us,rfl,oU,eD⟩:=Kp hm hR ha h
 obtain ⟨⟨d,hd⟩,gY⟩:=GL V4
 obtain ⟨i,hi⟩:=yB hd
 have mn:fV X.P t=i.size:=by simp [fV,hi]
 have hz:fV X.P t<=cs.length:=zQ hz
 rw [mn] at hz gY ⊢
 have hlen:=oU.length
 simp only [Instr.loadAt,Instr.sureAddr,loadVar,Sem.run_bind,Sem.run_pure,Result.andThen_ok,Hb hi ⟨d,hd⟩]
 cases Nl:BL X.P t with
 | true =>
  simp only [if_true,Sem.run_bind,ou hi,Result.andThen_ok]
  have K4:(loadCells ⟨g,o,none⟩ i.size).run X.P w= .ok (us.take i.size).toArray w:=by
   have:=run_loadCells_list (P:=X.P) w ⟨g,o,none⟩ (us.take i.size) (fun j v hj=>by
    rw [je]
    rw [List.getElem?_take] at hj
    split at hj
    ·exact eD j v hj
    ·cases hj)
   rwa [show (us.take i.size).length=i.size by rw [List.length_take]; omega] at this
  rw [K4]
  exact ⟨_,rfl,_,rfl,oU.take _⟩
 | false =>
  simp only [Bool.false_eq_true,if_false]
  have h1:=gY Nl
  rw [h1] at hz ⊢
  cases us with
  | nil=>simp at hlen; subst hlen; simp at hz
  | cons u us =>
   cases oU with
   | cons hx hl =>
    refine ⟨u,?_,bn.of hx⟩
    have:=eD 0 u rfl
    rw [Nat.add_zero] at this
    simp [this]
theorem vT.one {v:Value} {n:Nat} (h:vT v n):v.oneCell'=true:=by
 rcases h with ⟨rfl,rfl⟩ | ⟨g,o,cap,rfl,_⟩<;>rfl
theorem bp.one (hR:Rel X M γ w) {x:Cv} {v:Value} (h:bp M γ x v):v.oneCell'=true:=by
 cases x with
 | un=>exact h
 | b x=>have h:v=_:=h; subst h; rfl
 | i k n=>have h:v=_:=h; subst h; rfl
 | s x=>have h:v=_:=h; subst h; rfl
 | nl τ=>have h:v=_:=h; subst h; rfl
 | sw r=>obtain ⟨⟨row,hr⟩,rfl⟩:=h; exact (hR.rs r row hr).top.ze.Ip.one
 | sl r off len=>obtain ⟨_,_,_,hs⟩:=h; exact (vT.sub (n:=0) hs).one
 | nw r e c =>
  obtain ⟨row,τ,ys,hr,he,hc,hu⟩:=h
  obtain ⟨u',oT,eD⟩:=(hR.rs r row hr).rA e c _ he hc
  rw [hu] at oT; cases oT
  exact eD.2.ze.Ip.one
 | ns r e c off len=>obtain ⟨_,_,_,_,_,_,_,_,_,hs⟩:=h; exact (vT.sub (n:=0) hs).one
 | pv k c=>obtain ⟨_,rfl⟩:=h; rfl
 | pe r e c=>obtain ⟨_,_,_,_,_,_,_,_,rfl⟩:=h; rfl
 | pn r e c k d=>obtain ⟨_,_,_,_,_,_,_,_,_,_,_,_,_,_,rfl⟩:=h; rfl
 | fn f caps=>obtain ⟨_,rfl⟩:=h; rfl
theorem D4 {v:Value} (h:v.oneCell'=true):v.cells= #[v]:=by cases v<;>first | rfl | simp [Value.oneCell'] at h
theorem pR (hR:Rel X M γ w) {x:AV} {v:Value} {cs:List Cv} (hx:bn M γ x v) (h:x.cells=some cs):b9 M γ cs v.cells.toList:=by
 cases x with
 | c y =>
  have:y≠ .un/\cs=[y]:=by cases y<;>simp_all [AV.cells]
  obtain ⟨hy,rfl⟩:=this
  have hy:=bn.to hx hy
  rw [D4 (hy.one hR)]
  exact .cons hy .nil
 | a l =>
  simp only [AV.cells,zA] at h; subst h
  obtain ⟨us,rfl,hr⟩:=hx
  simpa [Value.cells] using hr
 | _=>simp [AV.cells] at h
theorem b9.one (hR:Rel X M γ w) {l:List Cv} {u:List Value} (h:b9 M γ l u):∀ v∈u,v.oneCell'=true:=by
 induction h with
 | nil=>simp
 | cons hx hl ih=>intro v hv; rcases zI.1 hv with rfl | hv; exact hx.one hR; exact ih v hv
theorem Lj {t:TypeId} {f n:Nat} {l:List Cv} {xv:Value} (hx:bn M γ (.a l) xv) (hf:xR X.P t f=some n)
  (hz:Nat.ble (n+fV X.P (Co X.P t f)) l.length=true) (V4:CI X.P (Co X.P t f)=true) :
  ∃ u,(Instr.field t xv f).run X.P w= .ok u w/\bn M γ (Us (BL X.P (Co X.P t f)) ((l.drop n).take (fV X.P (Co X.P t f)))) u:=by
 obtain ⟨fs,x,hu,zm,rfl⟩:∃ fs x,X.P.underlying t=some (.struct fs)/\fs[f]? =some x/\x.offset=n:=by
  revert hf; simp only [xR]; split
  ·rename_i fs QD
   split
   ·rename_i x hx; intro h; exact ⟨fs,x,QD,hx,by simpa using h⟩
   ·simp
  ·simp
 have SZ:Co X.P t f=x.type:=by simp [Co,hu,zm]
 rw [SZ] at hz V4 ⊢
 obtain ⟨⟨d,hd⟩,gY⟩:=GL V4
 obtain ⟨i,hi⟩:=yB hd
 have mn:fV X.P x.type=i.size:=by simp [fV,hi]
 have hz:x.offset+fV X.P x.type<=l.length:=zQ hz
 rw [mn] at hz gY ⊢
 obtain ⟨us,rfl,oU⟩:=hx
 have hlen:=oU.length
 simp only [Instr.field,Sem.run_bind,run_underlying hu,Result.andThen_ok,zm,asAgg,Sem.run_pure,part,Hb hi ⟨d,hd⟩]
 cases Nl:BL X.P x.type with
 | true =>
  simp only [if_true,Sem.run_bind,ou hi,Result.andThen_ok,Sem.run_pure]
  refine ⟨_,rfl,((us.drop x.offset).take i.size),?_,(oU.drop _).take _⟩
  congr 1
  apply Array.toList_inj.1
  simp [List.extract_eq_take_drop]
 | false =>
  simp only [Bool.false_eq_true,if_false]
  rw [gY Nl] at hz ⊢
  have h2:=(oU.drop x.offset)
  have h3:(l.drop x.offset).length=l.length-x.offset:=List.length_drop
  cases Ck:l.drop x.offset with
  | nil=>rw [Ck] at h3; simp at h3; omega
  | cons y rest =>
   rw [Ck] at h2
   cases hdu:us.drop x.offset with
   | nil=>rw [hdu] at h2; cases h2
   | cons u us' =>
    rw [hdu] at h2
    cases h2 with
    | cons hy _ =>
     have:us[x.offset]? =some u:=by
      have:=congrArg (fun l=>l[0]?) hdu
      simpa [List.getElem?_drop] using this
     refine ⟨u,by simp [this],bn.of hy⟩
theorem QT {l:List (Bool×List Cv)} {us:List Value} (h:sT M γ l us) {i:Nat} {p:Bool×List Cv} (hp:l[i]? =some p):∃ u,us[i]? =some u/\OC M γ p u:=by
 induction h generalizing i with
 | nil=>simp at hp
 | cons hx hl ih=>cases i with
  | zero=>simp at hp; subst hp; exact ⟨_,rfl,hx⟩
  | succ i=>exact ih hp
theorem Ic {l:List (Bool×List Cv)} {xv:Value} (hx:bn M γ (.t l) xv) {i:Nat} {b:Bool} {cs:List Cv} (h:nth l i=some (b,cs)) :
  ∃ u,(Instr.extract xv i).run X.P w= .ok u w/\bn M γ (Us b cs) u:=by
 obtain ⟨us,rfl,hr⟩:=hx
 rw [ij] at h
 obtain ⟨u,hu,vs,hv,h1,h2⟩:=QT hr h
 refine ⟨u,by simp [Instr.extract,hu],?_⟩
 cases b with
 | true=>exact ⟨vs,h1 rfl,hv⟩
 | false =>
  have:=h2 rfl
  subst this
  cases hv with
  | cons hx hl=>cases hl; exact bn.of hx
theorem R1 {t ty:TypeId} {a:ByteArray} (ht:isStr X.P t=true):(Builtin.len_ #[t] (ty:TypeId) #[.string a]).run X.P w= .ok (.int .i64 a.size) w:=by
 have pO:X.P.underlying t=some .string:=by
  revert ht; simp only [isStr]; split
  ·exact fun _=>by assumption
  ·simp
 simp [Builtin.len_,run_underlying pO,goInt]
theorem Sv {t ty:TypeId} {a:Option Addr} {n cap:Nat} (ht:Gy X.P t=true):(Builtin.len_ #[t] (ty:TypeId) #[.slice a n cap]).run X.P w= .ok (.int .i64 n) w:=by
 obtain ⟨e,he⟩:∃ e,X.P.underlying t=some (.slice e):=by
  revert ht; simp only [Gy]; split
  ·exact fun _=>⟨_,by assumption⟩
  ·simp
 simp [Builtin.len_,run_underlying he,goInt]
theorem vT.slice {v:Value} {n:Nat} (h:vT v n):∃ a cap,v= .slice a n cap:=by
 rcases h with ⟨rfl,rfl⟩ | ⟨g,o,cap,rfl,_⟩
 ·exact ⟨_,_,rfl⟩
 ·exact ⟨_,_,rfl⟩
theorem LG {t:TypeId} {a:ByteArray} {k:IntKind} {i:Int} (ht:isStr X.P t=true) (hi:aZ i a.size=true):(Instr.index t (.string a) (.int k i)).run X.P w= .ok (.int .u8 (bt a i.toNat)) w:=by
 have pO:X.P.underlying t=some .string:=by
  revert ht; simp only [isStr]; split
  ·exact fun _=>by assumption
  ·simp
 simp only [aZ,zB,zD] at hi
 have h1:i.toNat<a.size:=by omega
 have h2:a[i.toNat]? =some a[i.toNat]:=getElem?_pos a i.toNat h1
 simp [Instr.index,asIntOf,run_underlying pO,hi.1,h2]
 have h3:i.toNat<a.data.size:=h1
 simp only [bt,Array.getD,dif_pos h3]
 rfl
theorem RU {op:UnOp} {x:AV} {xv:Value} {v:AV} (hx:bn M γ x xv) (h:Good (Wd op x) v):∃ u,(Op.unary op xv).run X.P w= .ok u w/\bn M γ v u:=by
 cases op<;>cases x<;>try (simp [Wd,Good] at h; done)
 case not.c x =>
  cases x<;>simp [Wd,Good] at h
  subst h; have hx:xv= .bool _:=hx; subst hx; exact ⟨_,rfl,rfl⟩
 case neg.c x =>
  cases x<;>simp [Wd,Good] at h
  subst h; have hx:xv= .int _ _:=hx; subst hx; exact ⟨_,rfl,by show _=_; simp⟩
theorem FN {t u:TypeId} {k k':IntKind} {n:Int} {du dt:TypeDesc} (ht:X.P.underlying t=some dt) (hu:X.P.underlying u=some (.int k)) :
  (convert t u (.int k' n)).run X.P w= .ok (.int k (k.wrap n)) w:=by
 simp only [convert,Sem.run_bind,run_underlying ht,run_underlying hu,Result.andThen_ok]
 cases dt<;>rfl
theorem g9 {α:Type} (l m:List α) (c:Nat) (h:c+m.length<=l.length):(cT l c m).length=l.length:=by
 simp [cT]; omega
theorem b9.cT {l l':List Cv} {u u':List Value} (h:b9 M γ l u) (h':b9 M γ l' u') (c:Nat):b9 M γ (Soft.cT l c l') (Soft.cT u c u'):=by
 simp only [Soft.cT,← h'.length]
 exact ((h.take _).append h').append (h.drop _)
theorem F5 (off:Nat):∀ (vs:List Value) (k:Nat) (acc:Array Value),off+k+vs.length<=acc.size ->
  ((vs.zipIdx k).foldl (fun cs (p:Value×Nat)=>cs.setIfInBounds (off+p.2) p.1) acc).toList=Soft.cT acc.toList (off+k) vs:=by
 intro vs
 induction vs with
 | nil=>intro k acc h; simp [Soft.cT]
 | cons v vs ih =>
  intro k acc h
  simp only [List.zipIdx_cons,List.foldl_cons,zR] at h ⊢
  rw [ih (k+1) _ (by simp; omega)]
  simp only [Soft.cT,Array.toList_setIfInBounds,zR]
  have h1:off+k<acc.toList.length:=by simp; omega
  apply List.ext_getElem?
  intro i
  simp only [List.getElem?_append,zK,List.length_take,List.length_set,zR,List.getElem?_take,List.getElem?_drop,List.getElem?_set]
  rcases Nat.lt_trichotomy i (off+k) with hi | hi | hi
  ·simp [show i<min (off+(k+1)) acc.toList.length by omega,show i<off+(k+1) by omega,show i<off+k by omega,show i<min (off+k) acc.toList.length by omega,show ¬ off+k=i by omega]
   grind
  ·subst hi
   simp [show off+k<min (off+(k+1)) acc.toList.length by omega,show ¬ off+k<min (off+k) acc.toList.length by omega]
   grind
  ·grind
theorem UK {x:Cv} {v:Value} (h:Xl x v=true):bp M γ x v:=by
 cases x<;>cases v<;>simp_all [Xl,bp,Value.oneCell']
 case b x y=>cases x<;>cases y<;>simp_all [Xl]
 case i k n k' n' =>
  obtain ⟨h1,h2⟩:=h
  have:=qT h1
  split at h2
  ·rename_i h3 h4; exact ⟨this.symm,rfl⟩
  ·cases h2
 case nl τ a n c =>
  revert h; cases a<;>cases n<;>cases c<;>simp [Xl]
theorem RZ {l:List Cv}:∀ {u:List Value},LI l u=true->b9 M γ l u:=by
 induction l with
 | nil=>intro u h; cases u with | nil=>exact .nil | cons=>simp [LI] at h
 | cons x l ih=>intro u h; cases u with
  | nil=>simp [LI] at h
  | cons v u=>simp only [LI,zB] at h; exact .cons (UK h.1) (ih h.2)
theorem JO {t:TypeId} {cs:List Cv} (h:X.zero t=some cs):∃ i z,X.P.info? t=some i/\i.zero=some z/\b9 M γ cs z.cells.toList:=by
 simp only [Ctx.zero] at h
 revert h; split
 ·rename_i cs' i h1 h2
  split
  ·rename_i z hz
   split
   ·rename_i hq; intro h; cases h; exact ⟨i,z,h2,hz,RZ hq⟩
   ·simp
  ·simp
 ·simp
theorem R4 (hR:Rel X M γ w) {t:TypeId} {f:Operand->AV} (hf:∀ o,bn M γ (f o) (ρ o)) {place:Nat->Option (Nat×Nat)}
  (hp:∀ i off,xR X.P t i=some off->place i=some (off,fV X.P (Co X.P t i))) :
  ∀ (parts:List (Nat×Operand)) (acc cs:List Cv) (zs:Array Value),b9 M γ acc zs.toList->BA X t f parts acc=some cs ->
   ∃ arr,Instr.fill place zs (parts.map fun p=>(p.1,ρ p.2))=some arr/\b9 M γ cs arr.toList:=by
 intro parts
 induction parts with
 | nil=>intro acc cs zs hz h; simp only [BA,zA] at h; subst h; exact ⟨zs,rfl,hz⟩
 | cons p parts ih =>
  obtain ⟨i,o⟩:=p
  intro acc cs zs hz h
  simp only [BA] at h
  cases ho:xR X.P t i with
  | none=>simp [ho] at h
  | some off =>
   cases hc:(f o).cells with
   | none=>simp [ho,hc] at h
   | some cs' =>
    simp only [ho,hc] at h
    cases h1:Nat.ble (off+cs'.length) acc.length with
    | false=>simp [h1] at h
    | true =>
     cases h2:Nat.beq cs'.length (fV X.P (Co X.P t i)) with
     | false=>simp [h1,h2] at h
     | true =>
      simp only [h1,h2] at h
      have h1:=zQ h1
      have h2:=aF h2
      have hr:=pR hR (hf o) hc
      have hl:=hr.length
      have FG:=hz.length
      simp only [Array.length_toList] at hl FG
      simp only [List.map_cons,Instr.fill,hp i off ho]
      rw [if_neg (by simp; omega)]
      apply ih _ _ _ _ h
      have:=F5 off (ρ o).cells.toList 0 zs (by simp; omega)
      rw [Nat.add_zero] at this
      have e:(Array.foldl (fun cs (x:Value×Nat)=>cs.setIfInBounds (off+x.2) x.1) zs (ρ o).cells.zipIdx).toList=Soft.cT zs.toList off (ρ o).cells.toList:=by
       rw [← this,← Array.foldl_toList,Array.toList_zipIdx]
      rw [e]
      exact hz.cT hr off
theorem Dt {P:Program}:∀ (fs:List Field),GC P fs=true->fs.mapM (fun f=>(P.info? f.type).map fun i=>(f.offset,i.size))=some (fs.map fun f=>(f.offset,fV P f.type))
 | [],_=>rfl
 | f::fs,h=>by
  simp only [GC] at h
  cases hi:P.info? f.type with
  | none=>simp [hi] at h
  | some i =>
   simp only [hi] at h
   simp [List.mapM_cons,hi,Dt fs h,fV]
theorem Ot (hR:Rel X M γ w) {t:TypeId} {parts:Array (Nat×Operand)} {f:Operand->AV} (hf:∀ o,bn M γ (f o) (ρ o)) {zs cs:List Cv} (hz:X.zero t=some zs) (hp:Rk X.P t=true)
  (h:BA X t f parts.toList zs=some cs):∃ u,(Instr.build t (parts.map fun (i,x)=>(i,ρ x))).run X.P w= .ok u w/\bn M γ (.a cs) u:=by
 obtain ⟨i,z,hi,Y7,hr⟩:=JO (M:=M) (γ:=γ) hz
 obtain ⟨fs,hu,KN⟩:∃ fs,X.P.underlying t=some (.struct fs)/\GC X.P fs.toList=true:=by
  revert hp; simp only [Rk]; split
  ·rename_i fs QD; exact fun h=>⟨fs,QD,h⟩
  ·simp
 have VX:∀ i off,xR X.P t i=some off->((fs.toList.map fun f=>(f.offset,fV X.P f.type)).toArray[i]?)=some (off,fV X.P (Co X.P t i)):=by
  intro i off ho
  simp only [xR,hu] at ho
  cases hx:fs[i]? with
  | none=>simp [hx] at ho
  | some x =>
   simp only [hx,zA] at ho
   simp [Co,hu,hx,ho]
 obtain ⟨arr,ha,oU⟩:=R4 hR hf VX parts.toList zs cs z.cells hr h
 refine ⟨.agg arr,run_build w t _ arr ?_,arr.toList,by simp,oU⟩
 simp only [Program.built,hi,hu,Y7,Dt _ KN]
 rw [← ha,Array.toList_map]
theorem Rg {S:St} {a:Act} (hT:∀ t av,lk S.tm t=some av->bn M γ av (a.tmps.getD t undef)) (p:List (Nat×Bool))
  (hp:∀ t p' q v,lk S.tm t=some (.g p' q v)->A6 p' p=true->q=true) (ty:TypeId) (o:Operand):bn M γ (X.yd S p ty o) (a.eval o):=by
 cases o with
 | tmp t =>
  simp only [Ctx.yd,St.get,Act.eval]
  cases h:lk S.tm t with
  | none=>exact trivial
  | some av =>
   have hr:=hT t av h
   cases av with
   | g p' q v =>
    simp only
    cases hi:A6 p' p with
    | true=>simp only [hi]; exact hr.1 (hp t p' q v h hi)
    | false=>simp only [hi]; exact trivial
   | _=>exact hr
 | const v =>
  simp only [Ctx.yd,Act.eval]
  cases v<;>simp only [Ctx.cst]<;>first | exact trivial | rfl | skip
  rename_i a n c
  cases a<;>try exact trivial
  cases n<;>cases c<;>try exact trivial
  cases hτ:X.WC ty<;>simp only [hτ]<;>first | exact trivial | rfl
 | func f=>exact ⟨by simp,by simp [Act.eval]⟩
 | global g=>exact trivial
end Go.Soft
namespace Go.Soft
open Go
variable {X:Ctx} {m M:Lk} {γ:Gh} {w:World} {ρ:Operand->Value}
def Pure (X:Ctx) (M:Lk) (γ:Gh) (w:World) (ρ:Operand->Value) (o:Oper) (v:AV):Prop :=
 ∃ u,(Go.execOp ρ o).run X.P w= .ok (.value u) w/\bn M γ v u
theorem Pure.of {o:Oper} {v:AV} {s:Sem Value} (he:Go.execOp ρ o=(do let x←s; pure (.value x))) (h:∃ u,s.run X.P w= .ok u w/\bn M γ v u):Pure X M γ w ρ o v:=by
 obtain ⟨u,hu,hr⟩:=h
 exact ⟨u,by rw [he,Sem.run_bind,hu]; rfl,hr⟩
theorem Nr {c:Bool} {v v':AV} (h:Good (.r c v') v):c=true/\v'=v:=by
 simpa [Good] using h
theorem dG {v v':AV} (h:Good (.r0 v') v):v'=v:=by
 simpa [Good] using h
theorem kC {v:AV} (h:Good .no v):False:=by simp [Good] at h
theorem NU (hX:iy X) {op:BinOp} {t:TypeId} {x y:AV} {xo yo:Operand} {xv yv:Value} {v:AV} (hx:bn M γ x xv) (hy:bn M γ y yv)
  (h:Good (X.Em op t x y) v) :
  ∃ u,(do eqGuard op t xo yo xv yv; Go.binOp op t xv yv:Sem Value).run X.P w= .ok u w/\bn M γ v u:=by
 cases x with
 | c x =>
  cases x with
  | b a =>
   have hx:xv= .bool a:=hx
   subst hx
   simp only [Ctx.Em] at h
   cases ht:X.P.underlying t with
   | none=>simp [ht,Good] at h
   | some d=>cases d<;>first | exact Sw ht hy (by simpa [ht] using h) | (simp [ht,Good] at h)
  | i k a =>
   have hx:xv= .int k a:=hx
   subst hx
   simp only [Ctx.Em] at h
   cases y with
   | c y =>
    cases y with
    | i k' b =>
     have hy:yv= .int k' b:=hy
     subst hy
     cases hk:FE k k' with
     | true=>have:=qT hk; subst this; exact U8 h
     | false=>exact O6 hk h
    | _=>simp [mK,Good] at h
   | _=>simp [mK,Good] at h
  | s a =>
   have hx:xv= .string a:=hx
   subst hx
   simp only [Ctx.Em] at h
   cases y with
   | c y =>
    cases y with
    | s b=>have hy:yv= .string b:=hy; subst hy; exact UE h
    | _=>simp [mK,Good] at h
   | _=>simp [mK,Good] at h
  | _=>simp [Ctx.Em,mK,Good] at h
 | a l =>
  simp only [Ctx.Em] at h
  cases ht:lk X.eqs t with
  | none=>rw [ht] at h; simp [Good] at h
  | some ks =>
   cases y with
   | a m =>
    simp only [ht] at h
    cases hk:mY ks l&&mY ks m with
    | false=>rw [hk] at h; simp [Good] at h
    | true =>
     rw [hk] at h
     simp only [zB] at hk
     exact Uh hX ht hk.1 (fun m' e=>by cases e; exact hk.2) hx hy h
   | _=>simp [ht,Good] at h
 | _=>simp [Ctx.Em,mK,Good] at h
theorem wz {x:AV} {v:Value} {n:Int} (hx:bn M γ x v) (h:x.int=some n):∃ k,v= .int k n:=by
 cases x with
 | c y=>cases y<;>simp [AV.int] at h; subst h; exact ⟨_,hx⟩
 | _=>simp [AV.int] at h
theorem IX (xs:List UInt8):ga .byte xs=xs.map (Value.int .u8∘fun x=>(x.toNat:Int)):=by
 induction xs with
 | nil=>rfl
 | cons x xs ih=>simp only [ga,List.flatMap_cons] at ih ⊢; rw [ih]; rfl
theorem LJ (xs:List UInt8):(xs.map fun x=>(x.toNat:Int)).foldl (fun r n=>r.push (UInt8.ofNat n.toNat)) ByteArray.empty=⟨xs.toArray⟩:=by
 have:∀ (xs:List UInt8) (acc:List UInt8),(xs.map fun x=>(x.toNat:Int)).foldl (fun (r:ByteArray) n=>r.push (UInt8.ofNat n.toNat)) ⟨acc.toArray⟩=⟨(acc++xs).toArray⟩:=by
  intro xs
  induction xs with
  | nil=>intro acc; simp
  | cons x xs ih =>
   intro acc
   have h1:(ByteArray.push ⟨acc.toArray⟩ (UInt8.ofNat ((x.toNat:Int)).toNat))=⟨(acc++[x]).toArray⟩:=by
    simp [ByteArray.push]
   rw [List.map_cons,List.foldl_cons,h1,ih]
   simp
 exact this xs []
theorem OX (hm:Le m M) (hR:Rel X M γ w) {a:Cv} {av:Value} (ha:bp M γ a av) {xs:List UInt8} (h:bytesOf (m.vw a)=some xs) :
  (Conv.bytesToString av).run X.P w= .ok (.string ⟨xs.toArray⟩) w:=by
 have dg:(m.vw a).ct=some (.l .byte xs):=by
  revert h; cases hv:m.vw a with
  | no=>simp [bytesOf]
  | w τ ys=>cases τ<;>simp [bytesOf,Vw.ct]
  | p τ ys off len=>cases τ<;>simp [bytesOf,Vw.ct]
 obtain ⟨⟨cs,mq⟩,_⟩:=Ac hm hR ha dg
 have Aa:=mq.flat rfl
 rcases mq.top.2 with ⟨rfl,h0⟩ | ⟨g,o,cap,cur,e,fz,rfl,hg,_,_,mn,ht⟩
 ·cases xs with
  | nil=>rfl
  | cons=>simp at h0
 ·have iW:cs=(xs.map fun x=>(x.toNat:Int)).map (Value.int .u8):=by
   rw [Aa,List.map_map]; exact IX xs
  have K4:=run_loadCells_list (P:=X.P) w ⟨g,o,none⟩ cs (fun j v hj=>by rw [je]; exact mq.top.cell rfl hj)
  have hl:cs.length=xs.length:=by rw [iW]; simp
  rw [hl] at K4
  rw [run_bytesToString w ⟨g,o,none⟩ xs.length cap _ (iW▸K4)]
  congr 2
  exact LJ xs
theorem RI (hm:Le m M) (hR:Rel X M γ w) {t u:TypeId} {x:AV} {xv:Value} {v:AV} (hx:bn M γ x xv) (h:Good (X.KC m t u x) v) :
  ∃ y,(convert t u xv).run X.P w= .ok y w/\bn M γ v y:=by
 simp only [Ctx.KC] at h
 revert h; split
 ·rename_i _ _ _ dt k k' n ht hu
  intro h; have:=dG h; subst this
  have hx:xv= .int _ _:=hx
  subst hx
  exact ⟨_,FN (du:=dt) ht hu,rfl⟩
 ·rename_i _ _ _ e a ht hu
  split
  ·rename_i xs hb he
   intro h; have:=dG h; subst this
   have hr:=bn.to hx (by rintro rfl; simp [Lk.vw,bytesOf] at hb)
   obtain ⟨n,hlen⟩:∃ n,(m.vw a).len=some n:=by
    revert hb; cases m.vw a with
    | no=>simp [bytesOf]
    | w τ ys=>exact fun _=>⟨_,rfl⟩
    | p τ ys off len=>exact fun _=>⟨_,rfl⟩
   obtain ⟨a',cap,rfl⟩:=(uj hm hR hr hlen).slice
   refine ⟨_,?_,rfl⟩
   rw [run_convert_bytes_string w t u e _ _ _ ht he hu]
   exact OX hm hR hr hb
  ·exact fun h=>(kC h).elim
 ·exact fun h=>(kC h).elim
theorem JH {f:Operand->AV} (hf:∀ o,bn M γ (f o) (ρ o)):∀ (l:List Operand) (vs:List Nat),xI f l=some vs ->
  l.map ρ=vs.map (fun k=>Value.pointer (some ⟨γ.vb k,0,none⟩))/\∀ k∈vs,∃ cs,M.v k=some cs
 | [],vs,h=>by simp only [xI,zA] at h; subst h; simp
 | o::l,vs,h=>by
  simp only [xI] at h
  revert h; split
  ·rename_i v r hv hr
   intro h; cases h
   obtain ⟨h1,h2⟩:=JH hf l r hr
   have:=hf o; rw [hv] at this
   obtain ⟨h3,h4⟩:=this
   simp [h1,h4,h3]
   exact h2
  ·simp
theorem N0 {k:IntKind} (a b:Int):(Builtin.max2 (.int k a) (.int k b)).run X.P w= .ok (.int k (max a b)) w:=by
 simp only [Builtin.max2]
 show Result.ok _ _=_
 congr 2; split<;>omega
theorem O3 {k:IntKind} (a b:Int):(Builtin.min2 (.int k a) (.int k b)).run X.P w= .ok (.int k (min a b)) w:=by
 simp only [Builtin.min2]
 show Result.ok _ _=_
 congr 2; split<;>omega
theorem JT {f:Operand->AV} (hf:∀ o,bn M γ (f o) (ρ o)) {lo:Option Operand} {l:Option Int} (h:IW f lo=some l):∃ k,lo.map ρ=l.map (Value.int k):=by
 cases lo with
 | none=>simp only [IW,zA] at h; subst h; exact ⟨.i64,rfl⟩
 | some o =>
  simp only [IW] at h
  cases hi:(f o).int with
  | none=>simp [hi] at h
  | some n =>
   simp only [hi,zA] at h; subst h
   obtain ⟨k,hk⟩:=wz (hf o) hi
   exact ⟨k,by simp [hk]⟩
theorem Si {m:Lk} {τ:Ty} {d:Nat} {x y:Cv} {v:AV}:¬ Good (m.append τ d x y) v:=by
 intro h
 simp only [Lk.append] at h
 repeat' (first | (split at h) | (simp [Good] at h; done))
theorem Mr {m:Lk} {x:Cv} {l:List Cv} {v:AV}:¬ Good (m.store x l) v:=by
 intro h
 simp only [Lk.store] at h
 repeat' (first | (split at h) | (simp [Good] at h; done))
theorem NN {f:Int->Int->Int} {x y:AV} {xv yv:Value} {v:AV} (hx:bn M γ x xv) (hy:bn M γ y yv) (h:Good (V8 f x y) v) :
  ∃ k a b,xv= .int k a/\yv= .int k b/\v= .c (.i k (f a b)):=by
 revert h; simp only [V8]; split
 ·rename_i k a k' b
  split
  ·rename_i hk
   have hk:=qT hk; subst hk
   exact fun h=>⟨k,a,b,hx,hy,(dG h).symm⟩
  ·exact fun h=>(kC h).elim
 ·exact fun h=>(kC h).elim
theorem Uz (hm:Le m M) (hR:Rel X M γ w) {t ty:TypeId} {x:AV} {xv:Value} {v:AV} (hx:bn M γ x xv) (h:Good (X.H2 m t x) v) :
  ∃ u,(Builtin.len_ #[t] ty #[xv]).run X.P w= .ok u w/\bn M γ v u:=by
 have gen:∀ a,bp M γ a xv->Good (NY (Gy X.P t) (m.vw a).len) v->∃ u,(Builtin.len_ #[t] ty #[xv]).run X.P w= .ok u w/\bn M γ v u:=by
  intro a hr h
  cases hl:(m.vw a).len with
  | none=>simp [hl,NY,Good] at h
  | some n =>
   rw [hl] at h
   cases hs:Gy X.P t with
   | false=>rw [hs] at h; exact (kC h).elim
   | true =>
    rw [hs] at h
    have:=dG h; subst this
    obtain ⟨b,cap,rfl⟩:=(uj hm hR hr hl).slice
    exact ⟨_,Sv hs,rfl⟩
 cases x with
 | c a =>
  cases a with
  | s a =>
   have hx:xv= .string a:=hx
   subst hx
   cases hs:isStr X.P t with
   | false=>simp [Ctx.H2,hs,Good] at h
   | true =>
    simp only [Ctx.H2,hs] at h
    have:=dG h; subst this
    exact ⟨_,R1 hs,rfl⟩
  | un=>simp [Ctx.H2,Lk.vw,Vw.len,NY,Good] at h
  | _=>exact gen _ hx h
 | _=>simp [Ctx.H2,Good] at h
theorem Q3 (hX:iy X) (hm:Le m M) (hR:Rel X M γ w) {evp:List (Nat×Bool)->TypeId->Operand->AV} (q9:∀ ty x,bn M γ (evp [] ty x) (ρ x))
  (Vh:∀ ty t x a b,evp [] ty (.tmp t)= .c (.b x)->(x=true->bn M γ (evp [(t,true)] ty a) (ρ a))/\(x=false->bn M γ (evp [(t,false)] ty b) (ρ b)))
  {d:Nat} {o:Oper} {v:AV} (h:Good (bY X evp m d o.type o.op) v):Pure X M γ w ρ o v:=by
 obtain ⟨dst,op,type,pos,aft,guard⟩:=o
 simp only at h
 cases op with
 | move x =>
  simp only [bY] at h; have:=dG h; subst this
  exact ⟨_,rfl,q9 _ _⟩
 | assign x =>
  simp only [bY] at h; have:=dG h; subst this
  exact ⟨_,rfl,q9 _ _⟩
 | pick c a b =>
  cases c with
  | tmp t =>
   simp only [bY] at h
   cases hc:evp [] type (.tmp t) with
   | c y =>
    cases y with
    | b x =>
     simp only [hc] at h
     have:=dG h; subst this
     have hb:=q9 type (.tmp t); rw [hc] at hb
     have hb:ρ (.tmp t)= .bool x:=hb
     obtain ⟨h1,h2⟩:=Vh type t x a b hc
     refine ⟨bif x then ρ a else ρ b,by simp only [Go.execOp,Sem.run_bind,hb,asBool,Sem.run_pure,Result.andThen_ok]; cases x<;>rfl,?_⟩
     cases hu:evp [(t,true)] type a with
     | c u =>
      cases u with
      | b p =>
       cases hv:evp [(t,false)] type b with
       | c v =>
        cases v with
        | b q =>
         rw [hu] at h1; rw [hv] at h2
         cases x with
         | true=>exact h1 rfl
         | false=>exact h2 rfl
        | _=>exact trivial
       | _=>exact trivial
      | _=>exact trivial
     | _=>exact trivial
    | _=>simp [hc,Good] at h
   | _=>simp [hc,Good] at h
  | _=>simp [bY,Good] at h
 | build t parts =>
  simp only [bY] at h
  cases hz:X.zero t with
  | none=>simp [hz,Good] at h
  | some zs =>
   cases hp:Rk X.P t with
   | false=>simp [hz,hp,Good] at h
   | true =>
    cases hf:BA X t (evp [] type) parts.toList zs with
    | none=>simp [hz,hp,hf,Good] at h
    | some cs =>
     simp only [hz,hp,hf] at h
     have:=dG h; subst this
     exact Pure.of rfl (Ot hR (q9 type) hz hp hf)
 | load t x =>
  simp only [bY] at h
  cases hx:evp [] type x with
  | c a =>
   simp only [hx] at h
   cases D7:m.from a with
   | none=>simp [D7,Good] at h
   | some cs =>
    simp only [D7] at h
    cases hz:Nat.ble (fV X.P t) cs.length&&CI X.P t with
    | false=>simp [hz,Good] at h
    | true =>
     simp only [hz] at h
     have:=dG h; subst this
     simp only [zB] at hz
     have hr:=q9 type x; rw [hx] at hr
     exact Pure.of rfl (KD hm hR (bn.to hr (by rintro rfl; simp [Lk.from] at D7)) D7 hz.1 hz.2)
  | _=>simp [hx,Good] at h
 | nilCheck x =>
  simp only [bY] at h
  have hr:=q9 type x
  cases hx:evp [] type x with
  | c a =>
   rw [hx] at hr
   simp only [hx] at h
   cases a with
   | pv k c =>
    have:=dG h; subst this
    obtain ⟨h1,h2⟩:=hr
    exact ⟨ρ x,by simp only [Go.execOp,h2]; rfl,h1,h2⟩
   | pe r e c =>
    have:=dG h; subst this
    have cy:=hr
    obtain ⟨row,h1,h2,g,oo,n,cap,h3,h4⟩:=hr
    exact ⟨ρ x,by simp only [Go.execOp,h4]; rfl,cy⟩
   | pn r e c k d =>
    have:=dG h; subst this
    have cy:=hr
    obtain ⟨row,τ,ys,u,h1,h2,h3,h4,h5,g,oo,n,cap,h6,h7⟩:=hr
    exact ⟨ρ x,by simp only [Go.execOp,h7]; rfl,cy⟩
   | _=>simp [Good] at h
  | _=>simp [hx,Good] at h
 | binOp op t x y c =>
  simp only [bY] at h
  exact Pure.of rfl (NU hX (q9 t x) (q9 t y) h)
 | unOp op t x =>
  simp only [bY] at h
  exact Pure.of rfl (RU (q9 t x) h)
 | convert t u x =>
  simp only [bY] at h
  exact Pure.of rfl (RI hm hR (q9 t x) h)
 | makeFunc fn first caps =>
  cases fn with
  | func f =>
   simp only [bY] at h
   cases hs:first.size with
   | succ n=>simp [hs,Good] at h
   | zero =>
    cases hc:xI (evp [] type) caps.toList with
    | none=>simp [hs,hc,Good] at h
    | some vs =>
     simp only [hs,hc] at h
     have:=dG h; subst this
     obtain ⟨h1,h2⟩:=JH (q9 type) _ _ hc
     have h0:first= #[]:=Array.eq_empty_of_size_eq_zero hs
     subst h0
     refine Pure.of rfl ⟨_,rfl,h2,?_⟩
     have e:caps.map ρ=(vs.map fun k=>Value.pointer (some ⟨γ.vb k,0,none⟩)).toArray:=by
      rw [← h1]
      apply Array.toList_inj.1
      rw [Array.toList_map]
     rw [e]; first | rfl | simp | (congr 1)
  | _=>simp [bY,Good] at h
 | slice t x lo hi mx =>
  simp only [bY] at h
  cases mx with
  | some _=>simp [Good] at h
  | none =>
   cases hl:IW (evp [] type) lo with
   | none=>simp [hl,Good] at h
   | some l =>
    cases hh:IW (evp [] type) hi with
    | none=>simp [hl,hh,Good] at h
    | some hb =>
     simp only [hl,hh] at h
     cases hc:m.jX X.P t (evp [] t x) with
     | false=>simp [hc,Good] at h
     | true =>
      simp only [hc] at h
      obtain ⟨k1,e1⟩:=JT (q9 type) hl
      obtain ⟨k2,e2⟩:=JT (q9 type) hh
      obtain ⟨u,hu,hr⟩:=O4 hm hR (q9 t x) (kl:=k1) (kh:=k2) hc h
      exact Pure.of rfl ⟨u,by rw [e1,e2]; exact hu,hr⟩
 | fieldAddr t x f =>
  simp only [bY] at h
  cases hx:evp [] type x with
  | c a =>
   cases hf:xR X.P t f with
   | none=>simp [hx,hf,Good] at h
   | some n =>
    cases hz:Nat.beq (fV X.P (Co X.P t f)) 0 with
    | true=>simp only [hx,hf,hz] at h; exact (kC h).elim
    | false =>
     simp only [hx,hf,hz] at h
     have hr:=q9 type x; rw [hx] at hr
     have FJ:Iu a n≠ .un:=by intro e; rw [e] at h; exact (kC h).elim
     have hv:v= .c (Iu a n):=by
      revert h; split
      ·exact fun h=>(kC h).elim
      ·exact fun h=>(dG h).symm
     subst hv
     obtain ⟨u,hu,cy⟩:=Ph (bn.to hr (by rintro rfl; simp [Iu] at FJ)) hf hz FJ
     exact Pure.of rfl ⟨u,hu,bn.of cy⟩
  | _=>simp [hx,Good] at h
 | field t x f =>
  simp only [bY] at h
  cases hx:evp [] t x with
  | a l =>
   cases hf:xR X.P t f with
   | none=>simp [hx,hf,Good] at h
   | some n =>
    simp only [hx,hf] at h
    cases hz:Nat.ble (n+fV X.P (Co X.P t f)) l.length&&CI X.P (Co X.P t f) with
    | false=>simp [hz,Good] at h
    | true =>
     simp only [hz] at h
     have:=dG h; subst this
     simp only [zB] at hz
     have hr:=q9 t x; rw [hx] at hr
     exact Pure.of rfl (Lj hr hf hz.1 hz.2)
  | _=>simp [hx,Good] at h
 | indexAddr t x i =>
  simp only [bY] at h
  cases hx:evp [] t x with
  | c a =>
   cases hi:(evp [] type i).int with
   | none=>simp [hx,hi,Good] at h
   | some n =>
    simp only [hx,hi] at h
    obtain ⟨k,hk⟩:=wz (q9 type i) hi
    have hr:=q9 t x; rw [hx] at hr
    obtain ⟨u,hu,cy⟩:=OH hm hR (k:=k) (bn.to hr (by rintro rfl; simp [Lk.qo,Good] at h)) h
    exact Pure.of rfl ⟨u,by rw [hk]; exact hu,cy⟩
  | _=>simp [hx,Good] at h
 | index t x i =>
  simp only [bY] at h
  cases hx:evp [] t x with
  | c a =>
   cases a with
   | s a =>
    cases hi:(evp [] type i).int with
    | none=>simp [hx,hi,Good] at h
    | some n =>
     simp only [hx,hi] at h
     cases hs:isStr X.P t with
     | false=>simp [hs,Good] at h
     | true =>
      simp only [hs] at h
      obtain ⟨h1,rfl⟩:=Nr h
      obtain ⟨k,hk⟩:=wz (q9 type i) hi
      have hr:=q9 t x; rw [hx] at hr
      have hr:ρ x= .string a:=hr
      exact Pure.of rfl ⟨_,by rw [hk,hr]; exact LG hs h1,rfl⟩
   | _=>simp [hx,Good] at h
  | _=>simp [hx,Good] at h
 | extract x i =>
  simp only [bY] at h
  cases hx:evp [] type x with
  | t l =>
   simp only [hx] at h
   cases hn:nth l i with
   | none=>simp [hn,Good] at h
   | some p =>
    obtain ⟨b,cs⟩:=p
    simp only [hn] at h
    have:=dG h; subst this
    have hr:=q9 type x; rw [hx] at hr
    exact Pure.of rfl (Ic hr hn)
  | _=>simp [hx,Good] at h
 | call c =>
  obtain ⟨callee,args,argTypes⟩:=c
  cases callee with
  | builtin b =>
   simp only [bY] at h
   revert h; split
   ·rename_i x t ha ht
    intro h
    have FI:args= #[x]:=Array.toList_inj.1 ha
    have JA:argTypes= #[t]:=Array.toList_inj.1 ht
    subst FI; subst JA
    obtain ⟨u,hu,hr⟩:=Uz (ty:=type) hm hR (q9 t x) h
    refine ⟨u,?_,hr⟩
    simp only [Go.execOp,resolve,invoke,Sem.run_bind,Sem.run_pure,Result.andThen_ok,builtin,List.map_toArray,List.map,hu]
   ·intro h
    exfalso
    revert h; simp only [Ctx.Va]; split
    ·exact Si
    ·exact kC
   ·intro h
    exfalso
    revert h; simp only [Ctx.sD]; split
    ·split
     ·split
      ·simp [Good]
      ·exact kC
     ·exact kC
    ·exact kC
   ·intro h
    exfalso
    revert h; simp only [Ctx.uG]; repeat' split
    all_goals simp [Good]
   ·rename_i tys x y ha
    intro h
    have FI:args= #[x,y]:=Array.toList_inj.1 ha
    subst FI
    obtain ⟨k,a,b,e1,e2,rfl⟩:=NN (q9 type x) (q9 type y) h
    refine ⟨_,?_,rfl⟩
    simp only [Go.execOp,resolve,invoke,Sem.run_bind,Sem.run_pure,Result.andThen_ok,builtin,List.map_toArray,List.map,e1,e2,Builtin.max_]
    show (Result.andThen (Sem.run X.P (List.foldlM Builtin.max2 (.int k a) [.int k b]) w) _)=_
    simp only [List.foldlM,Sem.run_bind,N0,Result.andThen_ok,Sem.run_pure]
   ·rename_i tys x y ha
    intro h
    have FI:args= #[x,y]:=Array.toList_inj.1 ha
    subst FI
    obtain ⟨k,a,b,e1,e2,rfl⟩:=NN (q9 type x) (q9 type y) h
    refine ⟨_,?_,rfl⟩
    simp only [Go.execOp,resolve,invoke,Sem.run_bind,Sem.run_pure,Result.andThen_ok,builtin,List.map_toArray,List.map,e1,e2,Builtin.min_]
    show (Result.andThen (Sem.run X.P (List.foldlM Builtin.min2 (.int k a) [.int k b]) w) _)=_
    simp only [List.foldlM,Sem.run_bind,O3,Result.andThen_ok,Sem.run_pure]
   ·exact fun h=>(kC h).elim
  | value f=>simp [bY,Good] at h
  | invoke r n=>simp [bY,Good] at h
 | alloc t=>simp only [bY] at h; revert h; split<;>simp [Good]
 | box t x=>simp only [bY] at h; revert h; split<;>(try split)<;>simp [Good]
 | store t x y=>simp only [bY] at h; revert h; split<;>(try split)<;>first | (exact fun h=>(Mr h).elim) | simp [Good]
 | buildSlice t n ps =>
  exfalso; simp only [bY] at h
  repeat' (first | (split at h) | (exact kC h) | (simp [Good] at h; done))
 | makeSlice t n c =>
  exfalso; simp only [bY] at h
  repeat' (first | (split at h) | (exact kC h) | (simp [Good] at h; done))
 | _=>simp [bY,Good] at h
end Go.Soft
namespace Go.Soft
open Go
variable {X:Ctx} {m M:Lk} {γ γ':Gh} {w w':World} {ρ:Operand->Value} {S:St} {δ:Dl}
theorem NT {α:Type} (l:List (Nat×α)) (n:Nat) (v:α) (k:Nat):lk (put l n v) k=if n=k then some v else lk l k:=by
 have acz:∀ l:List (Nat×α),lk (Mc n v l) k=if n=k then (lk l n).map (fun _=>v) else lk l k:=by
  intro l
  induction l with
  | nil=>simp [Mc,lk]
  | cons p l ih =>
   obtain ⟨j,u⟩:=p
   simp only [Mc]
   by_cases KM:j=n
   ·subst KM
    rw [show Nat.beq j j=true from Nat.beq_refl j]
    simp only [lk]
    by_cases Fv:j=k
    ·subst Fv; simp [Nat.beq_refl]
    ·rw [show Nat.beq j k=false by cases h:Nat.beq j k; rfl; exact absurd (aF h) Fv]
     simp only [ih,Fv,if_false]
   ·rw [show Nat.beq j n=false by cases h:Nat.beq j n; rfl; exact absurd (aF h) KM]
    simp only [lk]
    rw [show Nat.beq j n=false by cases h:Nat.beq j n; rfl; exact absurd (aF h) KM]
    by_cases Fv:j=k
    ·subst Fv
     simp [Nat.beq_refl,Ne.symm KM]
    ·rw [show Nat.beq j k=false by cases h:Nat.beq j k; rfl; exact absurd (aF h) Fv]
     simp only [ih]
 simp only [put]
 cases h:lk l n with
 | none =>
  simp only [lk]
  by_cases Qu:n=k
  ·subst Qu; simp [Nat.beq_refl]
  ·rw [show Nat.beq n k=false by cases h:Nat.beq n k; rfl; exact absurd (aF h) Qu]; simp [Qu]
 | some u=>rw [acz,h]; rfl
theorem UR {α:Type} (n:Nat) (l:List (Nat×α)) (k:Nat):lk (Wh n l) k=if n=k then none else lk l k:=by
 induction l with
 | nil=>simp [Wh,lk]
 | cons p l ih =>
  obtain ⟨j,u⟩:=p
  simp only [Wh]
  by_cases KM:j=n
  ·subst KM
   rw [show Nat.beq j j=true from Nat.beq_refl j]
   simp only [ih,lk]
   by_cases Fv:j=k
   ·simp [Fv]
   ·rw [show Nat.beq j k=false by cases h:Nat.beq j k; rfl; exact absurd (aF h) Fv]
  ·rw [show Nat.beq j n=false by cases h:Nat.beq j n; rfl; exact absurd (aF h) KM]
   simp only [lk]
   by_cases Fv:j=k
   ·subst Fv; simp [Nat.beq_refl,Ne.symm KM]
   ·rw [show Nat.beq j k=false by cases h:Nat.beq j k; rfl; exact absurd (aF h) Fv]; exact ih
def fh {α:Type}:List (Nat×α)->Nat->Option α
 | [],_=>none
 | (k,v)::l,n=>match fh l n with
  | some u=>some u
  | none=>if k=n then some v else none
theorem Kk (m:List (Nat×List Cv)):∀ (l:List (Nat×List Cv)) (k:Nat),lk (OR l m) k=match fh m k with | some cs=>some cs | none=>lk l k:=by
 induction m with
 | nil=>intro l k; rfl
 | cons p m ih =>
  obtain ⟨j,cs⟩:=p
  intro l k
  simp only [OR,ih,fh,NT]
  cases fh m k with
  | some u=>rfl
  | none=>by_cases h:j=k<;>simp [h]
theorem Q0 (m:List (Nat×Option Row)):∀ (l:List (Nat×Row)) (k:Nat),lk (IE l m) k=match fh m k with | some r=>r | none=>lk l k:=by
 induction m with
 | nil=>intro l k; rfl
 | cons p m ih =>
  obtain ⟨j,r⟩:=p
  intro l k
  cases r with
  | none =>
   simp only [IE,ih,fh,UR]
   cases fh m k with
   | some u=>rfl
   | none=>by_cases h:j=k<;>simp [h]
  | some r =>
   simp only [IE,ih,fh,NT]
   cases fh m k with
   | some u=>rfl
   | none=>by_cases h:j=k<;>simp [h]
theorem tD (h:δ.quiet=true) (x:Cv):δ.map x=x:=by
 obtain ⟨mv,kr,ke,kn,kv,rs,vs⟩:=δ
 have:mv=[]/\kr=[]/\ke=[]/\kn=[]/\kv=[]:=by
  revert h; simp only [Dl.quiet]; split<;>simp_all
 obtain ⟨rfl,rfl,rfl,rfl,rfl⟩:=this
 have any:∀ l:List Nat,rJ l []=false:=by intro l; induction l with | nil=>rfl | cons a l ih=>simp [rJ,cd,ih]
 cases x<;>simp [Dl.map,cd,lk,any]
theorem zx {f:Cv->Cv} (h:∀ x,f x=x) (v:AV):km f v=v:=by
 have hl:∀ l:List Cv,l.map f=l:=fun l=>by rw [show f=id from funext h]; simp
 induction v with
 | c x=>simp [km,h]
 | a l=>simp [km,hl]
 | t l=>simp [km,hl]
 | g p q v ih=>simp [km,ih]
theorem kO (S:St) (δ:Dl) (k:Nat):(S.app δ).lk.r k=match fh δ.rs k with | some r=>r | none=>S.lk.r k:=by
 simp only [St.app,St.lk]
 cases δ.quiet<;>simp only [Q0]
theorem nZ (S:St) (δ:Dl) (k:Nat):(S.app δ).lk.v k=match fh δ.vs k with | some cs=>some cs | none=>(S.lk.v k).map (List.map δ.map):=by
 simp only [St.app,St.lk]
 cases h:δ.quiet with
 | true =>
  simp only [Kk]
  cases fh δ.vs k with
  | some cs=>rfl
  | none =>
   have:(List.map δ.map)=(id:List Cv->List Cv):=by
    rw [show δ.map=id from funext (tD h)]; exact funext fun l=>by simp
   simp [this]
 | false =>
  simp only [Kk,OS]
theorem Oy (S:St) (δ:Dl) (t:Nat):lk (S.app δ).tm t=(lk S.tm t).map (km δ.map):=by
 simp only [St.app]
 cases h:δ.quiet with
 | true =>
  have:km δ.map=id:=funext fun v=>zx (tD h) v
  simp [this]
 | false=>simp only [OS]
structure Step (X:Ctx) (S:St) (γ:Gh) (w:World) (δ:Dl) (γ':Gh) (w':World):Prop where
 rel:Rel X (S.app δ).lk γ' w'
 pP:∀ x v,bp S.lk γ x v->bp (S.app δ).lk γ' (δ.map x) v
 fr:Fr γ.O w γ'.O w'
 kp:∀ k row,fh δ.rs k=none->S.lk.r k=some row->γ'.rv k=γ.rv k/\γ'.cv k=γ.cv k
 k1:∀ k row,fh δ.rs k=some (some row)->row.ow=1->k<100000
 io:∀ k,200000<=k->k<300000->γ'.rv k=γ.rv k
 vb:∀ k,k<1000->γ'.vb k=γ.vb k
 vk:∀ k cs,S.lk.v k=some cs->fh δ.vs k=none->γ'.vb k=γ.vb k/\γ'.O (γ.vb k)=some (.v k)/\w'.heap[γ.vb k]? =w.heap[γ.vb k]?
theorem Fr.trans {O0:OM} {w0:World} {O O':OM} {w w':World} (h:Fr O0 w0 O w) (h':Fr O w O' w'):Fr O0 w0 O' w' :=
 ⟨h'.os.trans h.os,h'.tape.trans h.tape,h'.output.trans h.output,Nat.le_trans h.size h'.size,
  fun g hg ho=>by
   obtain ⟨h1,h2⟩:=h.oO g hg ho
   obtain ⟨h3,h4⟩:=h'.oO g (Nat.lt_of_lt_of_le hg h.size) (by rw [h1]; exact ho)
   exact ⟨h3.trans h1,h4.trans h2⟩,h'.top⟩
theorem b9.map {m':Lk} {f:Cv->Cv} (hk:∀ x v,bp M γ x v->bp m' γ' (f x) v) {l:List Cv} {u:List Value} (h:b9 M γ l u):b9 m' γ' (l.map f) u:=by
 induction h with
 | nil=>exact .nil
 | cons hx hl ih=>exact .cons (hk _ _ hx) ih
theorem OC.map {m':Lk} {f:Cv->Cv} (hk:∀ x v,bp M γ x v->bp m' γ' (f x) v) {p:Bool×List Cv} {u:Value} (h:OC M γ p u):OC m' γ' (p.1,p.2.map f) u:=by
 obtain ⟨us,h1,h2,h3⟩:=h
 exact ⟨us,h1.map hk,h2,h3⟩
theorem sT.map {m':Lk} {f:Cv->Cv} (hk:∀ x v,bp M γ x v->bp m' γ' (f x) v) {l:List (Bool×List Cv)} {u:List Value} (h:sT M γ l u):sT m' γ' (l.map fun p=>(p.1,p.2.map f)) u:=by
 induction h with
 | nil=>exact .nil
 | cons hx hl ih=>exact .cons (hx.map hk) ih
theorem bn.map {m':Lk} {f:Cv->Cv} (hk:∀ x v,bp M γ x v->bp m' γ' (f x) v) (hu:f .un= .un):∀ {av:AV} {v:Value},bn M γ av v->bn m' γ' (km f av) v
 | .c x,v,h=>by
  by_cases hx:x= .un
  ·subst hx; simp only [km,hu]; exact trivial
  ·exact bn.of (hk _ _ (bn.to h hx))
 | .a l,v,⟨us,h1,h2⟩=>⟨us,h1,h2.map hk⟩
 | .t l,v,⟨us,h1,h2⟩=>⟨us,h1,h2.map hk⟩
 | .g p q a,v,⟨h1,h2⟩=>⟨fun hq=>bn.map hk hu (h1 hq),h2⟩
theorem Du (δ:Dl) (x:Cv):δ.map x= .un \/
  (δ.map x=x/\(∀ r,x.row=some r->lk δ.mv r=none/\cd r δ.kr=false/\((∀ s,x≠ .sw s)->cd r δ.ke=false)/\(x.inner=true->cd r δ.kn=false))/\∀ k∈x.vk,cd k δ.kv=false) \/
  (∃ r d e c,lk δ.mv r=some (d,e,c)/\((x= .sw r/\δ.map x= .nw d e c)\/(∃ o n,x= .sl r o n/\δ.map x= .ns d e c o n)\/∃ k a,x= .pe r k a/\δ.map x= .pn d e c k a)):=by
 have anyF:∀ (l m:List Nat),rJ l m=false->∀ k∈l,cd k m=false:=by
  intro l m
  induction l with
  | nil=>simp
  | cons a l ih =>
   simp only [rJ]
   cases h:cd a m with
   | true=>simp
   | false=>intro h' k hk; rcases zI.1 hk with rfl | hk; exact h; exact ih h' k hk
 cases x with
 | pv v c=>simp only [Dl.map]; cases h:cd v δ.kv<;>simp [Cv.row,Cv.vk,h]
 | fn f caps =>
  simp only [Dl.map]; cases h:rJ caps δ.kv with
  | true=>simp
  | false=>right; left; exact ⟨rfl,by simp [Cv.row],fun k hk=>anyF _ _ h k hk⟩
 | sw r =>
  simp only [Dl.map]; cases h:lk δ.mv r with
  | some p=>obtain ⟨d,e,c⟩:=p; right; right; exact ⟨r,d,e,c,h,.inl ⟨rfl,by simp [h]⟩⟩
  | none=>cases h2:cd r δ.kr<;>simp [Cv.row,Cv.vk,Cv.inner,h,h2]
 | sl r o n =>
  simp only [Dl.map]; cases h:lk δ.mv r with
  | some p=>obtain ⟨d,e,c⟩:=p; right; right; exact ⟨r,d,e,c,h,.inr (.inl ⟨o,n,rfl,by simp [h]⟩)⟩
  | none=>cases h2:cd r δ.kr<;>cases h3:cd r δ.ke<;>simp [Cv.row,Cv.vk,Cv.inner,h,h2,h3]
 | pe r k a =>
  simp only [Dl.map]; cases h:lk δ.mv r with
  | some p=>obtain ⟨d,e,c⟩:=p; right; right; exact ⟨r,d,e,c,h,.inr (.inr ⟨k,a,rfl,by simp [h]⟩)⟩
  | none=>cases h2:cd r δ.kr<;>cases h3:cd r δ.ke<;>simp [Cv.row,Cv.vk,Cv.inner,h,h2,h3]
 | nw r e c =>
  simp only [Dl.map]; cases h:lk δ.mv r with
  | some p=>simp
  | none=>cases h2:cd r δ.kr<;>cases h3:cd r δ.ke<;>cases h4:cd r δ.kn<;>simp [Cv.row,Cv.vk,Cv.inner,h,h2,h3,h4]
 | ns r e c o n =>
  simp only [Dl.map]; cases h:lk δ.mv r with
  | some p=>simp
  | none=>cases h2:cd r δ.kr<;>cases h3:cd r δ.ke<;>cases h4:cd r δ.kn<;>simp [Cv.row,Cv.vk,Cv.inner,h,h2,h3,h4]
 | pn r e c k d =>
  simp only [Dl.map]; cases h:lk δ.mv r with
  | some p=>simp
  | none=>cases h2:cd r δ.kr<;>cases h3:cd r δ.ke<;>cases h4:cd r δ.kn<;>simp [Cv.row,Cv.vk,Cv.inner,h,h2,h3,h4]
 | _=>simp [Dl.map,Cv.row,Cv.vk]
theorem mA (hR:Rel X S.lk γ w) (D6:δ.mv=[])
  (hw:∀ r row,S.lk.r r=some row->cd r δ.kr=false->(∃ row',(S.app δ).lk.r r=some row')/\γ'.rv r=γ.rv r)
  (hr:∀ r row row',S.lk.r r=some row->cd r δ.kr=false->cd r δ.ke=false->(S.app δ).lk.r r=some row'->row'.τ=row.τ/\row.xs.length<=row'.xs.length)
  (hn:∀ r,cd r δ.kr=false->cd r δ.ke=false->cd r δ.kn=false->O5 S.lk γ (S.app δ).lk γ' r)
  (hv:∀ k cs,S.lk.v k=some cs->cd k δ.kv=false->(∃ cs',(S.app δ).lk.v k=some cs')/\γ'.vb k=γ.vb k) :
  ∀ x v,bp S.lk γ x v->bp (S.app δ).lk γ' (δ.map x) v:=by
 intro x v hx
 rcases Du δ x with h | ⟨h,h1,h2⟩ | ⟨r,d,e,c,h,_⟩
 ·rw [h]; exact hx.one hR
 ·rw [h]
  have Zb:∀ r,x= .sw r->bp (S.app δ).lk γ' x v:=by
   rintro r rfl
   obtain ⟨⟨row,bo⟩,rfl⟩:=hx
   obtain ⟨_,h3,_⟩:=h1 r rfl
   obtain ⟨h4,h5⟩:=hw r row bo h3
   exact ⟨h4,h5.symm⟩
  by_cases hs:∃ r,x= .sw r
  ·obtain ⟨r,rfl⟩:=hs; exact Zb r rfl
  ·have Fu:∀ s,x≠ .sw s:=fun s e=>hs ⟨s,e⟩
   have bo:∀ r,x.row=some r->∃ row,S.lk.r r=some row:=by
    intro r Nm
    cases x<;>simp [Cv.row] at Nm<;>subst Nm
    case sw r=>exact absurd rfl (Fu r)
    case sl=>obtain ⟨row,h,_⟩:=hx; exact ⟨row,h⟩
    case nw=>obtain ⟨row,_,_,h,_⟩:=hx; exact ⟨row,h⟩
    case ns=>obtain ⟨row,_,_,_,h,_⟩:=hx; exact ⟨row,h⟩
    case pe=>obtain ⟨row,h,_⟩:=hx; exact ⟨row,h⟩
    case pn=>obtain ⟨row,_,_,_,h,_⟩:=hx; exact ⟨row,h⟩
   have CX:∀ k∈x.vk,∃ cs,S.lk.v k=some cs:=by
    intro k hk
    cases x<;>simp [Cv.vk] at hk
    case pv=>subst hk; exact hx.1
    case fn=>exact hx.1 k hk
   refine hx.re (fun r cy=> ?_) (fun r cy hi=> ?_) (fun k hk=> ?_)
   ·obtain ⟨_,h3,h4,_⟩:=h1 r cy
    obtain ⟨row,KY⟩:=bo r cy
    obtain ⟨⟨row',h5⟩,h6⟩:=hw r row KY h3
    refine ⟨fun row2 h7=> ?_,h6⟩
    rw [KY] at h7; cases h7
    obtain ⟨h8,h9⟩:=hr r row row' KY h3 (h4 Fu) h5
    exact ⟨row',h5,h8,h9⟩
   ·obtain ⟨_,h3,h4,h5⟩:=h1 r cy
    exact hn r h3 (h4 Fu) (h5 hi)
   ·obtain ⟨cs,iW⟩:=CX k hk
    obtain ⟨h3,h4⟩:=hv k cs iW (h2 k hk)
    exact ⟨fun _ _=>h3,h4⟩
 ·simp [D6,lk] at h
theorem xZ {k:Nat} {row:Row} {v:Value} {cs:List Value} {O O':OM} (h:cS X O w k row v cs)
  (hf:∀ g o,w.heap[g]? =some o->Mk k (O g)->w'.heap[g]? =some o/\O' g=O g):cS X O' w' k row v cs:=by
 refine ⟨h.top.re (c':=dN k row.ow) (fun g o hg hi=> ?_) id,fun e c ct he hc=> ?_⟩
 ·obtain ⟨h1,h2⟩:=hf g o hg (E2 hi); exact ⟨h1,h2▸hi⟩
 ·obtain ⟨u,hu,hr⟩:=h.rA e c ct he hc
  exact ⟨u,hu,hr.re (fun g o hg hi=>by obtain ⟨h1,h2⟩:=hf g o hg (KJ hi); exact ⟨h1,h2▸hi⟩) id⟩
theorem bV {g:Nat} {o:Obj} (h:w.heap[g]? =some o):g<w.heap.size:=(Array.getElem?_eq_some_iff.1 h).1
def dZ {α:Type} (f:Nat->α) (k:Nat) (v:α):Nat->α:=fun n=>if n=k then v else f n
def Ov (O:OM) (k:Nat):OM:=fun g=>if O g=some (.v k) then none else O g
theorem xe {α β:Type} (f:α->β) (l:List α):rP f l=l.map f:=by
 induction l with
 | nil=>rfl
 | cons x l ih=>simp [rP,ih]
section newvar
variable (S γ w) (key:Nat) (cs:List Cv)
def FO:Dl:={ Dl.z with kv:=[key],vs:=[(key,cs)] }
def Gx:Gh:={ γ with O:=dZ (Ov γ.O key) w.heap.size (some (.v key)),vb:=dZ γ.vb key w.heap.size }
theorem Sm (k:Nat):(S.app (FO key cs)).lk.r k=S.lk.r k:=by rw [kO]; rfl
theorem Um (k:Nat):(S.app (FO key cs)).lk.v k=if key=k then some cs else (S.lk.v k).map (List.map (FO key cs).map):=by
 rw [nZ]
 show (match (if key=k then some cs else none) with | some cs=>some cs | none=>_)=_
 by_cases h:key=k<;>simp [h]
variable {S γ w}
theorem EP (hR:Rel X S.lk γ w):∀ x v,bp S.lk γ x v->bp (S.app (FO key cs)).lk (Gx γ w key) ((FO key cs).map x) v:=by
 refine mA hR rfl (fun r row h _=>⟨⟨row,by rw [Sm]; exact h⟩,rfl⟩) (fun r row row' h _ _ h'=> ?_) (fun r _ _ _=>⟨fun row row' h h'=> ?_⟩) (fun k c h hk=> ?_)
 ·rw [Sm,h] at h'; cases h'; exact ⟨rfl,Nat.le_refl _⟩
 ·rw [Sm,h] at h'; cases h'
  intro e c τ ys _ hc; exact ⟨⟨ys,hc,Nat.le_refl _⟩,rfl⟩
 ·have cL:¬ key=k:=by
   intro e; subst e; simp [FO,Dl.z,cd,Nat.beq_refl] at hk
  exact ⟨⟨c.map (FO key cs).map,by rw [Um,if_neg cL,h]; rfl⟩,by simp [Gx,dZ,Ne.symm cL]⟩
theorem J3 (uz:1000<=key) (hR:Rel X S.lk γ w) (cj:∀ g,w.heap.size<=g->γ.O g=none) (us:List Value) (e:TypeId) (hu:b9 (S.app (FO key cs)).lk (Gx γ w key) cs us) :
  Step X S γ w (FO key cs) (Gx γ w key) (w.alloc (.cells us.toArray e))/\bp (S.app (FO key cs)).lk (Gx γ w key) (.pv key 0) (.pointer (some ⟨w.heap.size,0,none⟩)):=by
 have hO:∀ g,g<w.heap.size->γ.O g≠some (.v key)->(Gx γ w key).O g=γ.O g:=by
  intro g hg cL
  simp only [Gx,dZ,Ov,Nat.ne_of_lt hg,if_false,cL]
 have ny:∀ g o,w.heap[g]? =some o->(w.alloc (.cells us.toArray e)).heap[g]? =some o:=fun g o hg=>by
  rw [heap_alloc_old w _ g (bV hg)]; exact hg
 refine ⟨⟨⟨fun k c hk=> ?_,fun k row hk=> ?_⟩,EP key cs hR,?_,fun _ _ _ _=>⟨rfl,rfl⟩,fun k row h=>(by cases h),fun _ _ _=>rfl,fun k hk=>(by simp [Gx,dZ,show k≠key by omega]),fun k cs hk hz=> ?_⟩,?_⟩
 ·rw [Um] at hk
  by_cases h:key=k
  ·subst h
   rw [if_pos rfl] at hk; cases hk
   refine ⟨by simp [Gx,dZ],us.toArray,e,by rw [show (Gx γ w key).vb key=w.heap.size by simp [Gx,dZ]]; exact heap_alloc_new w _,by simpa using hu⟩
  ·rw [if_neg h] at hk
   cases hc:S.lk.v k with
   | none=>simp [hc] at hk
   | some c' =>
    rw [hc] at hk; simp only [Option.map_some,zA] at hk; subst hk
    obtain ⟨h1,cur,e',h2,h3⟩:=hR.vs k c' hc
    have FF:(Gx γ w key).vb k=γ.vb k:=by simp [Gx,dZ,Ne.symm h]
    rw [FF]
    have fP:=bV h2
    refine ⟨by rw [hO _ fP (by rw [h1]; simp; exact fun e=>h e.symm),h1],cur,e',ny _ _ h2,h3.map (EP key cs hR)⟩
 ·rw [Sm] at hk
  refine xZ (hR.rs k row hk) fun g o hg hf=>⟨ny g o hg,hO g (bV hg) ?_⟩
  rcases hf with h | h | h | ⟨_,_,h⟩<;>rw [h]<;>simp
 ·refine ⟨rfl,rfl,rfl,by simp,fun g hg ho=>⟨hO g hg ?_,heap_alloc_old w _ g hg⟩,fun g hg=> ?_⟩
  ·rcases ho with h | h | h<;>rw [h]<;>simp
  ·simp only [World.size_alloc] at hg
   have h1:g≠w.heap.size:=by omega
   simp only [Gx,dZ,Ov,h1,if_false,cj g (by omega)]
   simp
 ·have cL:¬ key=k:=by
   rintro rfl
   simp [FO,Dl.z,fh] at hz
  obtain ⟨h1,cur,e',h2,h3⟩:=hR.vs k cs hk
  have fP:=bV h2
  exact ⟨by simp [Gx,dZ,Ne.symm cL],by rw [hO _ fP (by rw [h1]; simp; exact fun e=>cL e.symm),h1],heap_alloc_old w _ _ fP⟩
 ·exact ⟨⟨cs,by rw [Um,if_pos rfl]⟩,by simp [Gx,dZ]⟩
end newvar
theorem l8 (w:World) (g:Nat) (cs:Array Value) (k:Nat) (h:k≠g):(w.setRow g cs).heap[k]? =w.heap[k]? :=by
 simp [World.setRow,Array.getElem?_modify,Ne.symm h]
theorem sA (w:World) (g:Nat) (cs cur:Array Value) (e:TypeId) (fz:Nat×Nat) (h:w.heap[g]? =some (.cells cur e fz)):(w.setRow g cs).heap[g]? =some (.cells cs e fz):=by
 simp [World.setRow,Array.getElem?_modify,h]
theorem yp {t:TypeId} {v:Value} {g o:Nat} {cur:Array Value} {e:TypeId} (hg:w.heap[g]? =some (.cells cur e (0,0))) (hs:v.cells.size=fV X.P t) (hp:0<v.cells.size)
  (hle:o+v.cells.size<=cur.size) (h1:∀ u∈v.cells.toList,u.oneCell'=true) :
  (Instr.storeAt t (.pointer (some ⟨g,o,none⟩)) v).run X.P w= .ok () (w.setRow g (Soft.cT cur.toList o v.cells.toList).toArray):=by
 obtain ⟨i,hi,mn⟩:=GK hs.symm hp
 simp only [Instr.storeAt,Instr.sureAddr,storeVar,Sem.run_bind,Sem.run_pure,Result.andThen_ok,ou hi,mn,ne_eq,not_true_eq_false,if_false]
 rw [run_storeCells_at (P:=X.P) g o e v.cells.toList 0 cur w hg (by simpa using hle) h1]
 simp [Soft.cT]
theorem cU {α:Type} (l m:List α) (c i:Nat) (h:i<c) (hc:c<=l.length):(Soft.cT l c m)[i]? =l[i]? :=by
 simp only [Soft.cT,List.append_assoc]
 rw [List.getElem?_append_left (by simp; omega),List.getElem?_take,if_pos h]
theorem cY {α:Type} (l m:List α) (c i:Nat) (h:c+m.length<=i) (hc:c+m.length<=l.length):(Soft.cT l c m)[i]? =l[i]? :=by
 simp only [Soft.cT]
 rw [List.getElem?_append_right (by simp; omega),List.getElem?_drop]
 congr 1; simp; omega
theorem dI {α:Type} (l m:List α) (c j:Nat) (h:j<m.length) (hc:c+m.length<=l.length):(Soft.cT l c m)[c+j]? =m[j]? :=by
 simp only [Soft.cT,List.append_assoc]
 rw [List.getElem?_append_right (by simp; omega),List.getElem?_append_left (by simp; omega)]
 congr 1; simp; omega
section varstore
variable (k c:Nat) (rX vl:List Cv)
def M5:Dl:={ Dl.z with vs:=[(k,Soft.cT rX c vl)] }
theorem OJ (x:Cv):(M5 k c rX vl).map x=x:=tD rfl x
theorem Sn (j:Nat):(S.app (M5 k c rX vl)).lk.r j=S.lk.r j:=by rw [kO]; rfl
theorem Xq (j:Nat):(S.app (M5 k c rX vl)).lk.v j=if k=j then some (Soft.cT rX c vl) else S.lk.v j:=by
 rw [nZ]
 show (match (if k=j then some (Soft.cT rX c vl) else none) with | some cs=>some cs | none=>_)=_
 have:List.map (M5 k c rX vl).map=id:=by rw [show (M5 k c rX vl).map=id from funext (OJ k c rX vl)]; exact funext fun l=>by simp
 by_cases h:k=j<;>simp [h,this]
theorem RP (hR:Rel X S.lk γ w) (cj:∀ g,w.heap.size<=g->γ.O g=none) {t:TypeId} {v:Value} {av:Value} (ha:bp S.lk γ (.pv k c) av) (ho:S.lk.v k=some rX)
  (hle:c+vl.length<=rX.length) (hv:b9 S.lk γ vl v.cells.toList) (hs:vl.length=fV X.P t) (hp:0<vl.length) :
  ∃ w',(Instr.storeAt t av v).run X.P w= .ok () w'/\Step X S γ w (M5 k c rX vl) γ w':=by
 obtain ⟨_,rfl⟩:=ha
 obtain ⟨hO,cur,e,hg,oU⟩:=hR.vs k rX ho
 have hl1:=hv.length
 have MF:=oU.length
 simp only [Array.length_toList] at hl1 MF
 refine ⟨_,yp hg (by omega) (by omega) (by omega) (hv.one hR),?_⟩
 have pP:∀ x v,bp S.lk γ x v->bp (S.app (M5 k c rX vl)).lk γ ((M5 k c rX vl).map x) v:=by
  refine mA hR rfl (fun r row h _=>⟨⟨row,by rw [Sn]; exact h⟩,rfl⟩) (fun r row row' h _ _ h'=> ?_) (fun r _ _ _=>⟨fun row row' h h'=> ?_⟩) (fun j cs h _=>⟨?_,rfl⟩)
  ·rw [Sn,h] at h'; cases h'; exact ⟨rfl,Nat.le_refl _⟩
  ·rw [Sn,h] at h'; cases h'
   intro e c τ ys _ hc; exact ⟨⟨ys,hc,Nat.le_refl _⟩,rfl⟩
  ·rw [Xq]; by_cases lx:k=j
   ·exact ⟨_,if_pos lx⟩
   ·exact ⟨cs,by rw [if_neg lx]; exact h⟩
 have keep':∀ {l u},b9 S.lk γ l u->b9 (S.app (M5 k c rX vl)).lk γ l u:=by
  intro l u h
  have:=h.map pP
  rwa [show l.map (M5 k c rX vl).map=l by rw [show (M5 k c rX vl).map=id from funext (OJ k c rX vl)]; simp] at this
 have ny:∀ g,g≠γ.vb k->(w.setRow (γ.vb k) (Soft.cT cur.toList c v.cells.toList).toArray).heap[g]? =w.heap[g]? :=fun g h=>l8 w _ _ g h
 refine ⟨⟨fun j cs hj=> ?_,fun r row hr=> ?_⟩,pP,?_,fun _ _ _ _=>⟨rfl,rfl⟩,fun k row h=>(by cases h),fun _ _ _=>rfl,fun _ _=>rfl,fun j cs hj hz=>⟨rfl,(hR.vs j cs hj).1,ny _ fun h=> ?_⟩⟩
 ·rw [Xq] at hj
  by_cases lx:k=j
  ·subst lx
   rw [if_pos rfl] at hj; cases hj
   exact ⟨hO,_,e,sA w _ _ _ _ _ hg,by simpa using keep' (oU.cT hv c)⟩
  ·rw [if_neg lx] at hj
   obtain ⟨h1,cur',e',h2,h3⟩:=hR.vs j cs hj
   refine ⟨h1,cur',e',?_,keep' h3⟩
   rw [ny _ (fun h=>by rw [h,hO] at h1; simp at h1; exact lx h1)]; exact h2
 ·rw [Sn] at hr
  refine xZ (hR.rs r row hr) fun g o rY hf=>⟨?_,rfl⟩
  rw [ny g (fun h=>by rw [h,hO] at hf; rcases hf with h | h | h | ⟨_,_,h⟩<;>simp at h)]; exact rY
 ·refine ⟨rfl,rfl,rfl,by simp,fun g rY MW=>⟨rfl,ny g (fun h=>by rw [h,hO] at MW; simp at MW)⟩,fun g rY=>cj g (by simpa using rY)⟩
 ·have h1:=(hR.vs j cs hj).1
  rw [h,hO] at h1; simp at h1; subst h1
  simp [M5,Dl.z,fh] at hz
end varstore
end Go.Soft
namespace Go.Soft
open Go
variable {X:Ctx} {m M:Lk} {γ γ':Gh} {w w':World} {ρ:Operand->Value} {S:St} {δ:Dl}
structure JU (R:Nat->Prop) (γ:Gh) (w:World) (γ':Gh) (w':World):Prop where
 os:w'.os=w.os
 tape:w'.tape=w.tape
 output:w'.output=w.output
 size:w.heap.size<=w'.heap.size
 oO:∀ g,g<w.heap.size->(∀ r,R r->γ.O g≠some (.r r)/\∀ e c,γ.O g≠some (.n r e c))->w'.heap[g]? =w.heap[g]? /\γ'.O g=γ.O g
 top:∀ g,w'.heap.size<=g->γ'.O g=none
 vb:γ'.vb=γ.vb
 rv:∀ r,¬ R r->γ'.rv r=γ.rv r/\γ'.cv r=γ.cv r
theorem JU.row {R:Nat->Prop} (h:JU R γ w γ' w') {r:Nat} (hr:¬ R r) {row:Row} {v:Value} {cs:List Value} (bo:cS X γ.O w r row v cs):cS X γ'.O w' r row v cs :=
 xZ bo fun g o hg hf=>by
  obtain ⟨h1,h2⟩:=h.oO g (bV hg) (fun s hs=>by
   rcases hf with h | h | h | ⟨_,_,h⟩<;>rw [h]<;>refine ⟨?_,fun e c=> ?_⟩<;>simp
   ·rintro rfl; exact hr hs
   ·rintro rfl; exact absurd hs hr)
  exact ⟨h1.trans hg,h2⟩
theorem lU {R:Nat->Prop} (hR:Rel X S.lk γ w) (hvs:δ.vs=[]) (hc:JU R γ w γ' w') (pP:∀ x v,bp S.lk γ x v->bp (S.app δ).lk γ' (δ.map x) v)
  (SI:∀ r row,fh δ.rs r=some (some row)->cS X γ'.O w' r row (γ'.rv r) (γ'.cv r)) (FJ:∀ r row,fh δ.rs r=none->S.lk.r r=some row->¬ R r)
  (vN:∀ k row,fh δ.rs k=some (some row)->row.ow=1->k<100000) (Cq:∀ k,200000<=k->k<300000->γ'.rv k=γ.rv k):Step X S γ w δ γ' w':=by
 refine ⟨⟨fun k cs hk=> ?_,fun r row hr=> ?_⟩,pP,?_,fun k row h1 h2=>hc.rv k (FJ k row h1 h2),vN,Cq,fun k _=>(by rw [hc.vb]),fun k cs hk _=> ?_⟩
 ·rw [nZ,hvs] at hk
  simp only [fh] at hk
  cases iW:S.lk.v k with
  | none=>simp [iW] at hk
  | some cs' =>
   rw [iW] at hk; simp only [Option.map_some,zA] at hk; subst hk
   obtain ⟨h1,cur,e,h2,h3⟩:=hR.vs k cs' iW
   obtain ⟨h4,h5⟩:=hc.oO (γ.vb k) (bV h2) (fun s _=>by rw [h1]; simp)
   rw [hc.vb]
   exact ⟨h5.trans h1,cur,e,h4.trans h2,h3.map pP⟩
 ·rw [kO] at hr
  cases hz:fh δ.rs r with
  | none =>
   rw [hz] at hr
   have hn:=FJ r row hz hr
   obtain ⟨h1,h2⟩:=hc.rv r hn
   rw [h1,h2]
   exact hc.row hn (hR.rs r row hr)
  | some r' =>
   rw [hz] at hr
   subst hr
   exact SI r row hz
 ·refine ⟨hc.os,hc.tape,hc.output,hc.size,fun g hg ho=> ?_,hc.top⟩
  obtain ⟨h1,h2⟩:=hc.oO g hg (fun s _=>by rcases ho with h | h | h<;>rw [h]<;>simp)
  exact ⟨h2,h1⟩
 ·obtain ⟨h1,cur,e,h2,h3⟩:=hR.vs k cs hk
  obtain ⟨h4,h5⟩:=hc.oO (γ.vb k) (bV h2) (fun s _=>by rw [h1]; simp)
  exact ⟨by rw [hc.vb],h5.trans h1,h4⟩
def L8 (O:OM) (key:Nat) (n:Option Nat):OM:=fun g=>if some g=n then some (.r key) else match O g with
 | some (.r k)=>if k=key then none else some (.r k)
 | some (.n k e c)=>if k=key then none else some (.n k e c)
 | o=>o
def zf (γ:Gh) (key:Nat) (n:Option Nat) (v:Value) (cs:List Value):Gh:={ γ with O:=L8 γ.O key n,rv:=dZ γ.rv key v,cv:=dZ γ.cv key cs }
theorem Q6 (cj:∀ g,w.heap.size<=g->γ.O g=none) {key:Nat} {n:Option Nat} {v:Value} {cs:List Value} (YQ:w'.os=w.os) (Cw:w'.tape=w.tape) (vL:w'.output=w.output)
  (mn:w.heap.size<=w'.heap.size) (hn:∀ g,some g=n->w.heap.size<=g/\g<w'.heap.size) (hb:∀ g,g<w.heap.size->w'.heap[g]? =w.heap[g]?) :
  JU (·=key) γ w (zf γ key n v cs) w':=by
 refine ⟨YQ,Cw,vL,mn,fun g hg hk=>⟨hb g hg,?_⟩,fun g hg=> ?_,rfl,fun r hr=>by simp [zf,dZ,hr]⟩
 ·obtain ⟨h1,h2⟩:=hk key rfl
  have Ch:¬ some g=n:=fun h=>by have:=hn g h; omega
  simp only [zf,L8,if_neg Ch]
  cases ho:γ.O g with
  | none=>rfl
  | some o =>
   rw [ho] at h1 h2
   cases o with
   | r k=>simp at h1; simp [h1]
   | n k e c=>have:=h2 e c; simp at this; simp [this]
   | _=>rfl
 ·have Ch:¬ some g=n:=fun h=>by have:=hn g h; omega
  simp only [zf,L8,if_neg Ch,cj g (Nat.le_trans mn hg)]
def Oh (key:Nat) (row:Row):Dl:={ Dl.z with kr:=[key],rs:=[(key,some row)] }
theorem QY (S:St) (key:Nat) (row:Row) (k:Nat):(S.app (Oh key row)).lk.r k=if key=k then some row else S.lk.r k:=by
 rw [kO]
 show (match (if key=k then some (some row) else none) with | some r=>r | none=>_)=_
 by_cases h:key=k<;>simp [h]
theorem aa6 (S:St) (key:Nat) (row:Row) (k:Nat):(S.app (Oh key row)).lk.v k=(S.lk.v k).map (List.map (Oh key row).map):=by rw [nZ]; rfl
theorem J4 {a b:Nat}:cd a [b]=false↔a≠b:=by
 simp only [cd]
 cases h:Nat.beq b a with
 | true=>have:=aF h; simp [this]
 | false=>simp; rintro rfl; rw [Nat.beq_refl] at h; cases h
theorem Q5 (hR:Rel X S.lk γ w) (key:Nat) (row:Row) {γ':Gh} (FF:γ'.vb=γ.vb) (vP:∀ r,r≠key->γ'.rv r=γ.rv r/\γ'.cv r=γ.cv r) :
  ∀ x v,bp S.lk γ x v->bp (S.app (Oh key row)).lk γ' ((Oh key row).map x) v:=by
 have cL:∀ r,cd r (Oh key row).kr=false->key≠r:=fun r h=>Ne.symm (J4.1 h)
 refine mA hR rfl (fun r rw' h hk=>⟨⟨rw',by rw [QY,if_neg (cL r hk)]; exact h⟩,(vP r (Ne.symm (cL r hk))).1⟩) (fun r row1 row2 h hk _ h'=> ?_) (fun r hk _ _=>⟨fun row1 row2 h h'=> ?_⟩) (fun k cs h _=>⟨?_,by rw [FF]⟩)
 ·rw [QY,if_neg (cL r hk),h] at h'; cases h'; exact ⟨rfl,Nat.le_refl _⟩
 ·rw [QY,if_neg (cL r hk),h] at h'; cases h'
  intro e c τ ys _ hc; exact ⟨⟨ys,hc,Nat.le_refl _⟩,by rw [(vP r (Ne.symm (cL r hk))).2]⟩
 ·exact ⟨cs.map (Oh key row).map,by rw [aa6,h]; rfl⟩
theorem QW (hR:Rel X S.lk γ w) {key:Nat} {row:Row} (uz:key<100000) {v:Value} {cs:List Value} {n:Option Nat} (hc:JU (·=key) γ w (zf γ key n v cs) w') (bo:cS X (L8 γ.O key n) w' key row v cs) :
  Step X S γ w (Oh key row) (zf γ key n v cs) w'/\bp (S.app (Oh key row)).lk (zf γ key n v cs) (.sw key) v:=by
 refine ⟨lU hR rfl hc (Q5 hR key row rfl fun r hr=>by simp [zf,dZ,hr]) (fun r row' h=> ?_) (fun r row' h _=> ?_) (fun k row' h _=> ?_) (fun k h1 _=>by simp [zf,dZ,show k≠key by omega]),⟨row,by rw [QY,if_pos rfl]⟩,by simp [zf,dZ]⟩
 ·have h:(if key=r then some (some row) else none)=some (some row'):=h
  by_cases hk:key=r
  ·subst hk; rw [if_pos rfl] at h; cases h
   simpa [zf,dZ] using bo
  ·rw [if_neg hk] at h; cases h
 ·have h:(if key=r then some (some row) else none)=none:=h
  by_cases hk:key=r
  ·rw [if_pos hk] at h; cases h
  ·exact Ne.symm hk
 ·have h:(if key=k then some (some row) else none)=some (some row'):=h
  by_cases hk:key=k
  ·omega
  ·rw [if_neg hk] at h; cases h
theorem DB (τ:Ty) {c:Nat} {ct:Ct} (h:(cells τ (cg τ))[c]? =some ct) (X:Ctx) (O:OM) (w:World) (cl:Ev):fW X O w cl ct (gx ct):=by
 have nil:∀ σ:Ty,σ.deep=false->fW X O w cl (.l σ []) (.slice none 0 0):=by
  intro σ hd
  refine ⟨hd,?_⟩
  cases cl with
  | own t=>exact ⟨World.ownsRow_nil w 0 _ _,by simp [Value.ownBlock]⟩
  | _=>exact ⟨by simp [ga],.inl ⟨rfl,rfl⟩⟩
 have hm:=List.mem_of_getElem? h
 have one:∀ ct':Ct,(ct'=ct)->(ct'= .l .int []\/ct'= .l .slot []\/fW X O w cl ct' (gx ct'))->fW X O w cl ct (gx ct):=by
  rintro _ rfl (rfl | rfl | h)
  ·exact nil _ rfl
  ·exact nil _ rfl
  ·exact h
 cases τ<;>simp only [cells,cg,zI,List.not_mem_nil,or_false] at hm
 all_goals (
  repeat (first
   | (refine one _ hm.symm ?_; first | exact .inr (.inr rfl) | exact .inl rfl | exact .inr (.inl rfl))
   | (refine hm.elim (fun hm=> ?_) (fun hm=> ?_))))
theorem nL {t:TypeId} {τ:Ty} (h:X.lE t=some τ):X.P.underlying t=some (.slice (X.id τ))/\lk X.ty (X.id τ)=some τ:=by
 simp only [Ctx.lE,Pr,Ctx.RD] at h
 revert h; split
 ·rename_i e he
  split
  ·rename_i τ' hτ
   split
   ·rename_i hb
    intro h; cases h
    have:=aF hb
    subst this
    refine ⟨?_,hτ⟩
    revert he; split<;>intro he
    ·cases he; assumption
    ·cases he
   ·simp
  ·simp
 ·simp
theorem sJ (hX:iy X) {t:TypeId} {τ:Ty} (h:X.lE t=some τ):∃ i z,X.P.info? (X.id τ)=some i/\i.zero=some z/\i.size=sz τ/\i.bytes<=128/\z.cells.toList=(cells τ (cg τ)).map gx/\z.cells.size=sz τ:=by
 obtain ⟨_,h2⟩:=nL h
 obtain ⟨i,hi,hs⟩:=hX.ty _ _ h2
 obtain ⟨i',z,rT,hz,hc,hb⟩:=hX.id _ _ h2 rfl
 rw [hi] at rT; cases rT
 refine ⟨i,z,hi,hz,hs,hb,hc,?_⟩
 have:=congrArg List.length hc
 simpa [bc] using this
theorem GV {z:Array Value} {n e c s:Nat} (hs:z.size=s) (hp:0<s) (he:e<n) (hc:c<s):(madeCells z (n*s)).toList[e*s+c]? =z.toList[c]? :=by
 have h1:(e+1)*s<=n*s:=zP _ he
 rw [Nat.add_mul] at h1
 have h2:e*s+c<n*s:=by omega
 have h3:(e*s+c) % s=c:=by rw [Nat.mul_comm,Nat.mul_add_mod,Nat.mod_eq_of_lt hc]
 subst hs
 simp [madeCells,h2,h3,hc]
theorem LX (hX:iy X) (hR:Rel X S.lk γ w) (cj:∀ g,w.heap.size<=g->γ.O g=none) {t:TypeId} {τ:Ty} (ht:X.lE t=some τ) {k k':IntKind} {n:Nat} (hn:n<=Na) (key:Nat) (uz:key<100000) :
  ∃ v w' γ',(Instr.makeSlice t (.int k n) (.int k' n)).run X.P w= .ok v w'/\Step X S γ w (Oh key ⟨τ,List.replicate n (cg τ),5⟩) γ' w' /\
   bp (S.app (Oh key ⟨τ,List.replicate n (cg τ),5⟩)).lk γ' (.sw key) v:=by
 obtain ⟨hu,hτ⟩:=nL ht
 obtain ⟨i,z,hi,hz,hs,hb,hc,Jq⟩:=sJ hX ht
 have Wo:i.bytes*n<=281474976710656:=by
  have:=Nat.mul_le_mul hb hn; simp only [Na] at this; omega
 obtain ⟨w',ni,gN,zp⟩:=run_make_full (P:=X.P) w 0 t (X.id τ) i z (sz τ) hu hi hz hs k k' n Wo (by simp only [Na] at hn; simp only [maxLen]; omega) (Nat.zero_le _)
 have iU:w.heap.size<w'.heap.size:=(gN.lt w.heap.size rfl).2
 have tq:JU (·=key) γ w (zf γ key (some w.heap.size) (.slice (some ⟨w.heap.size,0,none⟩) n n) (madeCells z.cells (n*sz τ)).toList) w' :=
  Q6 cj zp.os zp.tape zp.output zp.size (fun g hg=>by cases hg; exact ⟨Nat.le_refl _,iU⟩) (fun g hg=>zp.block g hg (by simp))
 have bo:cS X (L8 γ.O key (some w.heap.size)) w' key ⟨τ,List.replicate n (cg τ),5⟩ (.slice (some ⟨w.heap.size,0,none⟩) n n) (madeCells z.cells (n*sz τ)).toList:=by
  refine ⟨⟨by simpa using gN,fun g hg=> ?_⟩,fun e c ct he dg=> ?_⟩
  ·have:w.heap.size=g:=by simpa [Value.ownBlock] using hg
   simp [L8,this]
  ·have he:e<n:=by simpa using he
   have iW:(cells τ (cg τ))[c]? =some ct:=by
    have:(List.replicate n (cg τ)).getD e (cg τ)=cg τ:=by simp [List.getD,List.getElem?_replicate,he]
    rw [vq,this] at dg; exact dg
   have fP:c<sz τ:=by have:=(zU.1 iW).1; rwa [bc] at this
   refine ⟨gx ct,?_,DB τ iW _ _ _ _⟩
   rw [GV Jq (oE τ) he fP,hc,List.getElem?_map,iW]; rfl
 obtain ⟨h1,h2⟩:=QW hR uz tq bo
 exact ⟨_,w',_,ni,h1,h2⟩
def Gr (M:Lk) (γ:Gh) (x:Cv) (g:Nat):Prop:=match x with
 | .sw r=>∃ row,M.r r=some row/\In (dN r row.ow) (γ.O g)
 | .sl r _ _=>∃ row,M.r r=some row/\In (dN r row.ow) (γ.O g)
 | .nw r e c=>∃ row,M.r r=some row/\In (dP r e c row.ow) (γ.O g)
 | .ns r e c _ _=>∃ row,M.r r=some row/\In (dP r e c row.ow) (γ.O g)
 | _=>False
theorem OY (hm:Le m M) (hR:Rel X M γ w) {x:Cv} {v:Value} (hx:bp M γ x v) {τ:Ty} {ys:List (El τ)} (hd:τ.deep=false) (h:(m.vw x).ct=some (.l τ ys)) :
  zz (Gr M γ x) w (sz τ) v ys.length (ga τ ys):=by
 obtain ⟨⟨cs,mq⟩,hlen⟩:=Ac hm hR hx h
 have Aa:=mq.flat hd
 subst Aa
 refine ⟨mq.top.1,?_⟩
 have top:∀ {A:Nat->Prop} {b:Value} {n':Nat} {cs':List Value} {off len z:Nat},zz A w z b n' cs'->Aw z b off len v->∀ g o n cap,v= .slice (some ⟨g,o,none⟩) n cap->A g:=by
  intro A b n' cs' off len z hb hs g o n cap hv
  rcases hs with ⟨_,h2,_⟩ | ⟨g1,o1,n1,cap1,o2,cap2,h1,h2,_⟩
  ·rw [h2] at hv; cases hv
  ·rw [h2] at hv
   have hg:g1=g:=by injection hv with h1 _ _; injection h1 with h1; injection h1
   subst hg
   rcases hb.2 with ⟨h3,_⟩ | ⟨g3,o3,cap3,cur,e,fz,h3,_,ha,_⟩
   ·rw [h3] at h1; cases h1
   ·rw [h3] at h1
    have hg:g3=g1:=by injection h1 with h1 _ _; injection h1 with h1; injection h1
    exact hg▸ha
 have self:∀ {A:Nat->Prop} {n':Nat} {cs':List Value} {z:Nat},zz A w z v n' cs'->∀ g o n cap,v= .slice (some ⟨g,o,none⟩) n cap->A g:=by
  intro A n' cs' z hb g o n cap hv
  exact top hb hb.Ip.self g o n cap hv
 have key:∀ g o n cap,v= .slice (some ⟨g,o,none⟩) n cap->Gr M γ x g:=by
  cases x with
  | nl σ=>intro g o n cap hv; have hx:v= .slice none 0 0:=hx; rw [hx] at hv; cases hv
  | sw r =>
   obtain ⟨⟨row,hr⟩,rfl⟩:=hx
   exact fun g o n cap hv=>⟨row,hr,self (hR.rs r row hr).top.ze g o n cap hv⟩
  | sl r off len =>
   obtain ⟨row,hr,_,hs⟩:=hx
   exact fun g o n cap hv=>⟨row,hr,top (hR.rs r row hr).top.ze hs g o n cap hv⟩
  | nw r e c =>
   obtain ⟨row,τ',ys',hr,he,hc,hu⟩:=hx
   obtain ⟨u',oT,eD⟩:=(hR.rs r row hr).rA e c _ he hc
   rw [hu] at oT; cases oT
   exact fun g o n cap hv=>⟨row,hr,self eD.2.ze g o n cap hv⟩
  | ns r e c off len =>
   obtain ⟨row,τ',ys',u,hr,he,hc,hu,_,hs⟩:=hx
   obtain ⟨u',oT,eD⟩:=(hR.rs r row hr).rA e c _ he hc
   rw [hu] at oT; cases oT
   exact fun g o n cap hv=>⟨row,hr,top eD.2.ze hs g o n cap hv⟩
  | _=>simp [Lk.vw,Vw.ct] at h
 rcases mq.top.2 with hn | ⟨g,o,cap,cur,e,fz,h1,h2,h3,h4⟩
 ·exact .inl hn
 ·exact .inr ⟨g,o,cap,cur,e,fz,h1,h2,key _ _ _ _ h1,h4⟩
structure AbO (M:Lk) (γ:Gh) (w:World) (O':OM) (w':World) (x:Cv) (a:Ab) (key e c dL:Nat):Prop where
 heap:∀ g o,w.heap[g]? =some o->Gr M γ x g->w'.heap[g]? =some o
 Xi:∀ g,g<w.heap.size->(γ.O g=none\/γ.O g=some .fz)->O' g=γ.O g
 mv:∀ r,a.mv=some r->∀ g,γ.O g=some (.r r)->In (dP key e c dL) (O' g)
 YT:∀ r,a.sh=some (r,3)->∀ g,γ.O g=some (.r r)->O' g=some .fz
 WJ:∀ r,a.sh=some (r,4)->∀ g e c,γ.O g=some (.n r e c)->O' g=some .fz
theorem AE (r:Nat) {ow:Nat} (ho:eu ow=false):(dN r ow= .fz/\Re ow=4)\/(dN r ow= .mW/\Re ow=2):=by
 simp only [dN,ho,Re]
 by_cases h3:ow=3
 ·subst h3; exact .inl ⟨rfl,rfl⟩
 ·refine .inr ⟨?_,?_⟩
  ·split
   ·exact absurd rfl h3
   ·rfl
  ·split
   ·exact absurd rfl h3
   ·rfl
theorem Lu (hm:Le m M) (hR:Rel X M γ w) {x:Cv} {v:Value} (hx:bp M γ x v) {a:Ab} (ha:m.eG x=some a) {key e c dL:Nat} (tp:dL=2\/dL=4\/dL=5) (hle:dL<=a.lv)
  {O':OM} {w':World} (h:AbO M γ w O' w' x a key e c dL):fW X O' w' (dP key e c dL) a.ct v:=by
 have nil:∀ σ:Ty,σ.deep=false->fW X O' w' (dP key e c dL) (.l σ []) (.slice none 0 0):=by
  intro σ hd
  refine ⟨hd,?_⟩
  cases dP key e c dL with
  | own t=>exact ⟨World.ownsRow_nil w' 0 _ _,by simp [Value.ownBlock]⟩
  | _=>exact ⟨by simp [ga],.inl ⟨rfl,rfl⟩⟩
 have shut:∀ (τ:Ty) (ys:List (El τ)),τ.deep=false->(m.vw x).ct=some (.l τ ys)->dL≠5->(∀ g,g<w.heap.size->Gr M γ x g->In (dP key e c dL) (O' g)) ->
   fW X O' w' (dP key e c dL) (.l τ ys) v:=by
  intro τ ys hd dg h5 ht
  refine ⟨hd,?_⟩
  have hs:=OY hm hR hx hd dg
  have hb:∀ g o,w.heap[g]? =some o->Gr M γ x g->w'.heap[g]? =some o/\In (dP key e c dL) (O' g):=by
   intro g o hg hi
   exact ⟨h.heap g o hg hi,ht g (bV hg) hi⟩
  have Fu:=hs.mono hb
  have:dP key e c dL= .mW\/dP key e c dL= .fz:=by
   rcases tp with rfl | rfl | rfl
   ·exact .inl rfl
   ·exact .inr rfl
   ·exact absurd rfl h5
  rcases this with hc | hc<;>rw [hc] at Fu ⊢<;>exact Fu
 have toB:∀ g,g<w.heap.size->In .mW (γ.O g)->dL=2->In (dP key e c dL) (O' g):=by
  intro g hg hi h2; subst h2
  have:=h.Xi g hg hi
  show In .mW (O' g); rw [this]; exact hi
 have toF:∀ g,(O' g=some .fz)->dL≠5->In (dP key e c dL) (O' g):=by
  intro g hi h5
  rcases tp with rfl | rfl | rfl
  ·exact .inr hi
  ·exact hi
  ·exact absurd rfl h5
 have fzF:∀ g,g<w.heap.size->γ.O g=some .fz->O' g=some .fz:=fun g hg hi=>by rw [h.Xi g hg (.inr hi)]; exact hi
 cases x with
 | b y=>simp only [Lk.eG,zA] at ha; subst ha; exact hx
 | i k n=>simp only [Lk.eG,zA] at ha; subst ha; exact hx
 | s y=>simp only [Lk.eG,zA] at ha; subst ha; exact hx
 | nl τ =>
  simp only [Lk.eG] at ha
  cases hd:τ.deep with
  | true=>simp [hd] at ha
  | false=>simp only [hd,zA] at ha; subst ha; have hx:v= .slice none 0 0:=hx; subst hx; exact nil τ hd
 | sw r =>
  simp only [Lk.eG] at ha
  cases hr:m.r r with
  | none=>simp [hr] at ha
  | some row =>
   have fO:=hm.r r row hr
   cases hd:row.τ.deep with
   | true=>simp [hr,hd] at ha
   | false =>
    cases ho:eu row.ow with
    | true =>
     simp only [hr,hd,ho,zA] at ha; subst ha
     obtain ⟨⟨row',cy⟩,rfl⟩:=hx
     have bo:=hR.rs r row fO
     refine ⟨hd,?_⟩
     have Aa:γ.cv r=ga row.τ row.xs:=(bo.W3 (A:=fun _=>True) (fun _ _=>trivial)).flat hd
     have cj:=bo.top
     rw [Aa] at cj
     refine cj.re (fun g o hg hi=> ?_) (fun _=>by simp [dN,ho,Ev.px])
     have hi:γ.O g=some (.r r):=by simpa [dN,ho,In] using hi
     exact ⟨h.heap g o hg ⟨row,fO,by simpa [dN,ho,In] using hi⟩,h.mv r rfl g hi⟩
    | false =>
     simp only [hr,hd,ho,zA] at ha; subst ha
     have dg:(m.vw (.sw r)).ct=some (.l row.τ row.xs):=by simp [Lk.vw,hr,Vw.ct]
     simp only at hle ⊢
     rcases AE r ho with ⟨ht,hl⟩ | ⟨ht,hl⟩
     ·rw [hl] at hle
      refine shut _ _ hd dg (by omega) (fun g hg hi=>toF g ?_ (by omega))
      obtain ⟨row',cy,hi⟩:=hi
      rw [fO] at cy; cases cy
      rw [ht] at hi; exact fzF g hg hi
     ·rw [hl] at hle
      refine shut _ _ hd dg (by omega) (fun g hg hi=>toB g hg ?_ (by omega))
      obtain ⟨row',cy,hi⟩:=hi
      rw [fO] at cy; cases cy
      rw [ht] at hi; exact hi
 | sl r off len =>
  simp only [Lk.eG] at ha
  cases dg:(m.vw (.sl r off len)).ct with
  | none=>simp [dg] at ha
  | some ct =>
   cases ct with
   | l τ y =>
    cases hr:m.r r with
    | none=>simp [dg,hr,Cv.row] at ha
    | some row =>
     have fO:=hm.r r row hr
     cases hd:τ.deep with
     | true=>simp [dg,hr,hd,Cv.row] at ha
     | false =>
      cases ho:eu row.ow with
      | true =>
       simp only [dg,hr,hd,ho,Cv.row,Cv.inner] at ha
       cases h4:nO 4 row.ow with
       | false=>simp [h4] at ha
       | true =>
       simp only [h4,zA] at ha; subst ha
       simp only at hle ⊢
       refine shut _ _ hd dg (by omega) (fun g hg hi=>toF g ?_ (by omega))
       obtain ⟨row',cy,hi⟩:=hi
       rw [fO] at cy; cases cy
       exact h.YT r rfl g (by simpa [dN,ho,In] using hi)
      | false =>
       simp only [dg,hr,hd,ho,Cv.row,Cv.inner,zA] at ha; subst ha
       simp only at hle ⊢
       rcases AE r ho with ⟨ht,hl⟩ | ⟨ht,hl⟩
       ·rw [hl] at hle
        refine shut _ _ hd dg (by omega) (fun g hg hi=>toF g ?_ (by omega))
        obtain ⟨row',cy,hi⟩:=hi
        rw [fO] at cy; cases cy
        rw [ht] at hi; exact fzF g hg hi
       ·rw [hl] at hle
        refine shut _ _ hd dg (by omega) (fun g hg hi=>toB g hg ?_ (by omega))
        obtain ⟨row',cy,hi⟩:=hi
        rw [fO] at cy; cases cy
        rw [ht] at hi; exact hi
   | _=>simp [dg] at ha
 | nw r e' c' =>
  simp only [Lk.eG] at ha
  cases dg:(m.vw (.nw r e' c')).ct with
  | none=>simp [dg] at ha
  | some ct =>
   cases ct with
   | l τ y =>
    cases hr:m.r r with
    | none=>simp [dg,hr,Cv.row] at ha
    | some row =>
     have fO:=hm.r r row hr
     cases hd:τ.deep with
     | true=>simp [dg,hr,hd,Cv.row] at ha
     | false =>
      simp only [dg,hr,hd,Cv.row,Cv.inner] at ha
      have fz4:(row.ow=4\/row.ow=3)->a=⟨.l τ y,none,none,4⟩->fW X O' w' (dP key e c dL) a.ct v:=by
       rintro ho rfl
       simp only at hle ⊢
       refine shut _ _ hd dg (by omega) (fun g hg hi=>toF g ?_ (by omega))
       obtain ⟨row',cy,hi⟩:=hi
       rw [fO] at cy; cases cy
       exact fzF g hg (by rcases ho with ho | ho<;>rw [ho] at hi<;>exact hi)
      revert ha; split
      ·rename_i ho
       intro ha; cases ha
       simp only at hle ⊢
       refine shut _ _ hd dg (by omega) (fun g hg hi=>toF g ?_ (by omega))
       obtain ⟨row',cy,hi⟩:=hi
       rw [fO] at cy; cases cy
       rw [ho] at hi
       exact h.WJ r rfl g _ _ hi
      ·rename_i ho; intro ha; exact fz4 (.inl ho) (Option.some.inj ha).symm
      ·rename_i ho; intro ha; exact fz4 (.inr ho) (Option.some.inj ha).symm
      ·rename_i h5 h4 h3
       intro ha; cases ha
       simp only at hle ⊢
       refine shut _ _ hd dg (by omega) (fun g hg hi=>toB g hg ?_ (by omega))
       obtain ⟨row',cy,hi⟩:=hi
       rw [fO] at cy; cases cy
       have:∀ e c,dP r e c row.ow= .mW:=by
        intro e c; simp only [dP]
       rw [this] at hi; exact hi
   | _=>simp [dg] at ha
 | ns r e' c' off len =>
  simp only [Lk.eG] at ha
  cases dg:(m.vw (.ns r e' c' off len)).ct with
  | none=>simp [dg] at ha
  | some ct =>
   cases ct with
   | l τ y =>
    cases hr:m.r r with
    | none=>simp [dg,hr,Cv.row] at ha
    | some row =>
     have fO:=hm.r r row hr
     cases hd:τ.deep with
     | true=>simp [dg,hr,hd,Cv.row] at ha
     | false =>
      simp only [dg,hr,hd,Cv.row,Cv.inner] at ha
      have fz4:(row.ow=4\/row.ow=3)->a=⟨.l τ y,none,none,4⟩->fW X O' w' (dP key e c dL) a.ct v:=by
       rintro ho rfl
       simp only at hle ⊢
       refine shut _ _ hd dg (by omega) (fun g hg hi=>toF g ?_ (by omega))
       obtain ⟨row',cy,hi⟩:=hi
       rw [fO] at cy; cases cy
       exact fzF g hg (by rcases ho with ho | ho<;>rw [ho] at hi<;>exact hi)
      revert ha; split
      ·rename_i ho
       intro ha; cases ha
       simp only at hle ⊢
       refine shut _ _ hd dg (by omega) (fun g hg hi=>toF g ?_ (by omega))
       obtain ⟨row',cy,hi⟩:=hi
       rw [fO] at cy; cases cy
       rw [ho] at hi
       exact h.WJ r rfl g _ _ hi
      ·rename_i ho; intro ha; exact fz4 (.inl ho) (Option.some.inj ha).symm
      ·rename_i ho; intro ha; exact fz4 (.inr ho) (Option.some.inj ha).symm
      ·rename_i h5 h4 h3
       intro ha; cases ha
       simp only at hle ⊢
       refine shut _ _ hd dg (by omega) (fun g hg hi=>toB g hg ?_ (by omega))
       obtain ⟨row',cy,hi⟩:=hi
       rw [fO] at cy; cases cy
       have:∀ e c,dP r e c row.ow= .mW:=by
        intro e c; simp only [dP]
       rw [this] at hi; exact hi
   | _=>simp [dg] at ha
 | _=>simp [Lk.eG,Lk.vw,Vw.ct] at ha
structure Iz (M:Lk) (γ:Gh) (w:World) (O':OM) (w':World) (xs:List Cv) (mv:List (Nat×(Nat×Nat))) (sh:List (Nat×Nat)) (key dL:Nat):Prop where
 heap:∀ g o,w.heap[g]? =some o->(∃ x∈xs,Gr M γ x g)->w'.heap[g]? =some o
 Xi:∀ g,g<w.heap.size->(γ.O g=none\/γ.O g=some .fz)->O' g=γ.O g
 mv:∀ r e c,(r,(e,c))∈mv->∀ g,γ.O g=some (.r r)->In (dP key e c dL) (O' g)
 YT:∀ r,(r,3)∈sh->∀ g,γ.O g=some (.r r)->O' g=some .fz
 WJ:∀ r,(r,4)∈sh->∀ g e c,γ.O g=some (.n r e c)->O' g=some .fz
theorem Iz.mono {O':OM} {xs ys:List Cv} {mv mv':List (Nat×(Nat×Nat))} {sh sh':List (Nat×Nat)} {key dL:Nat} (h:Iz M γ w O' w' xs mv sh key dL) (hx:∀ x∈ys,x∈xs) (D6:∀ p∈mv',p∈mv)
  (FH:∀ p∈sh',p∈sh):Iz M γ w O' w' ys mv' sh' key dL :=
 ⟨fun g o hg hi=>h.heap g o hg (let ⟨x,zm,hi⟩:=hi; ⟨x,hx x zm,hi⟩),h.Xi,
  fun r e c hr=>h.mv r e c (D6 _ hr),fun r hr=>h.YT r (FH _ hr),fun r hr=>h.WJ r (FH _ hr)⟩
theorem Aj (hm:Le m M) (hR:Rel X M γ w) {key dL e:Nat} (tp:dL=2\/dL=4\/dL=5) {O':OM} {w':World} :
  ∀ (vl:List Cv) (us:List Value) (c:Nat) (a:It),b9 M γ vl us->m.bS e c vl=some a->dL<=a.lv->Iz M γ w O' w' vl a.mv a.sh key dL ->
   a.iD.length=vl.length/\∀ j ct,a.iD[j]? =some ct->∃ u,us[j]? =some u/\fW X O' w' (dP key e (c+j) dL) ct u:=by
 intro vl
 induction vl with
 | nil=>intro us c a hr ha _ _; simp only [Lk.bS,zA] at ha; subst ha; exact ⟨rfl,by simp⟩
 | cons x vl ih =>
  intro us c a hr ha hle hO
  cases hr with
  | cons hx hl =>
   rename_i v us
   simp only [Lk.bS] at ha
   cases tu:m.eG x with
   | none=>simp [tu] at ha
   | some a1 =>
    cases eB:m.bS e (c+1) vl with
    | none=>simp [tu,eB] at ha
    | some a2 =>
     simp only [tu,eB,zA] at ha; subst ha
     simp only at hle hO ⊢
     have h2:Iz M γ w O' w' vl a2.mv a2.sh key dL:=hO.mono (fun x hx=>zJ _ hx) (fun p hp=>by split; exact zJ _ hp; exact hp)
      (fun p hp=>by split; exact zJ _ hp; exact hp)
     obtain ⟨i1,i2⟩:=ih us (c+1) a2 hl eB (by omega) h2
     have h1:AbO M γ w O' w' x a1 key e c dL:=by
      refine ⟨fun g o hg hi=>hO.heap g o hg ⟨x,by simp,hi⟩,hO.Xi,fun r hr=> ?_,fun r hr=> ?_,fun r hr=> ?_⟩
      ·have:=hO.mv r e c (by rw [hr]; simp)
       exact this
      ·exact hO.YT r (by rw [hr]; simp)
      ·exact hO.WJ r (by rw [hr]; simp)
     have h0:=Lu hm hR hx tu (key:=key) (e:=e) (c:=c) tp (by omega) h1
     refine ⟨by simp [i1],fun j ct hj=> ?_⟩
     cases j with
     | zero=>simp only [List.getElem?_cons_zero,zA] at hj; subst hj; exact ⟨v,rfl,h0⟩
     | succ j =>
      obtain ⟨u,hu,hc⟩:=i2 j ct (by simpa using hj)
      exact ⟨u,by simpa using hu,by rw [show c+(j+1)=c+1+j by omega]; exact hc⟩
theorem qn {τ:Ty} {l:List Ct} {y:El τ} (h:rO τ l=some y) (hb:τ.isByte=true->CC τ l=true):cells τ y=l:=by
 revert h hb
 fun_cases rO τ l
 case case3 n =>
  intro h hb
  cases h
  have hb:=hb rfl
  simp only [CC,zB,zD] at hb
  obtain ⟨h0,h1⟩:=hb
  have:((UInt8.ofNat n.toNat).toNat:Int)=n:=by
   have h2:n.toNat<256:=by omega
   simp only [UInt8.toNat_ofNat']
   rw [Nat.mod_eq_of_lt (by simpa using h2)]
   omega
  simp only [cells,this]
 all_goals (intro h hb; first | (cases h; rfl) | (exfalso; rw [rO.eq_11 _ _ (by assumption) (by assumption) (by assumption) (by assumption) (by assumption) (by assumption) (by assumption) (by assumption) (by assumption) (by assumption)] at h; cases h))
theorem fb {a:Nat} {l:List Nat}:cd a l=true↔a∈l:=by
 induction l with
 | nil=>simp [cd]
 | cons b l ih =>
  simp only [cd,zI]
  cases h:Nat.beq b a with
  | true=>have:=aF h; simp [this]
  | false =>
   simp only [ih]; constructor
   ·exact .inr
   ·rintro (rfl | h')
    ·rw [Nat.beq_refl] at h; cases h
    ·exact h'
theorem gH {l:List Nat}:fB l=true↔l.Nodup:=by
 induction l with
 | nil=>simp [fB]
 | cons a l ih =>
  simp only [fB,List.nodup_cons,← fb]
  cases h:cd a l<;>simp [ih]
theorem keys_eq {α:Type} (l:List (Nat×α)):keys l=l.map (·.1):=by
 induction l with
 | nil=>rfl
 | cons p l ih=>obtain ⟨k,v⟩:=p; simp [keys,ih]
theorem cM {α:Type} {l:List (Nat×α)} {k:Nat} {v:α} (h:lk l k=some v):(k,v)∈l:=by
 induction l with
 | nil=>simp [lk] at h
 | cons p l ih =>
  obtain ⟨j,u⟩:=p
  simp only [lk] at h
  cases hj:Nat.beq j k with
  | true=>simp only [hj,zA] at h; have:=aF hj; subst this; subst h; simp
  | false=>simp only [hj] at h; exact zJ _ (ih h)
theorem cH {α:Type} {l:List (Nat×α)} {k:Nat}:lk l k=none↔k∉keys l:=by
 induction l with
 | nil=>simp [lk,keys]
 | cons p l ih =>
  obtain ⟨j,u⟩:=p
  simp only [lk,keys,zI,not_or]
  cases hj:Nat.beq j k with
  | true=>have:=aF hj; simp [this]
  | false =>
   simp only [ih]; constructor
   ·intro h; exact ⟨(by rintro rfl; rw [Nat.beq_refl] at hj; cases hj),h⟩
   ·exact fun h=>h.2
theorem mem_keys {α:Type} {l:List (Nat×α)} {k:Nat} {v:α} (h:(k,v)∈l):k∈keys l:=by rw [keys_eq]; exact List.mem_map_of_mem h
theorem gg {α:Type} {l:List (Nat×α)} {k:Nat} {v:α} (hn:(keys l).Nodup) (h:(k,v)∈l):lk l k=some v:=by
 induction l with
 | nil=>simp at h
 | cons p l ih =>
  obtain ⟨j,u⟩:=p
  simp only [keys,List.nodup_cons] at hn
  simp only [lk]
  rcases zI.1 h with h | h
  ·cases h; simp [Nat.beq_refl]
  ·have cL:Nat.beq j k=false:=by
    cases hj:Nat.beq j k with
    | false=>rfl
    | true=>have:=aF hj; subst this; exact absurd (mem_keys h) hn.1
   simp [cL,ih hn.2 h]
theorem ia {α:Type} (a b:List (Nat×α)) (k:Nat):fh (a++b) k=match fh b k with | some v=>some v | none=>fh a k:=by
 induction a with
 | nil=>simp [fh]; cases fh b k<;>rfl
 | cons p a ih =>
  obtain ⟨j,u⟩:=p
  simp only [List.cons_append,fh,ih]
  cases fh b k<;>rfl
theorem Kj {α:Type} (j:Nat) (v:α) (k:Nat):fh [(j,v)] k=if j=k then some v else none:=rfl
def dn (dL key e c:Nat):Ow:=match dL with | 5=> .n key e c | _=> .fz
theorem Kw {dL key e c:Nat} (tp:dL=2\/dL=4\/dL=5):In (dP key e c dL) (some (dn dL key e c)):=by
 rcases tp with rfl | rfl | rfl
 ·exact .inr rfl
 ·exact rfl
 ·exact rfl
structure Ro where
 key:Nat
 dL:Nat
 pP:Bool
 dead:Nat->Nat->Bool
 mv:List (Nat×(Nat×Nat))
 sh:List (Nat×Nat)
def Ro.f (a:Ro):Ow->Option Ow
 | .r k=>match lk a.mv k with
  | some (e,c)=>some (dn a.dL a.key e c)
  | none=>match lk a.sh k with
   | some 3=>some .fz
   | _=>if k=a.key then (if a.pP then some (.r k) else none) else some (.r k)
 | .n k e c=>match lk a.sh k with
  | some _=>some .fz
  | none=>if k=a.key then (if a.dead e c then none else some (dn a.dL a.key e c)) else some (.n k e c)
 | o=>some o
def Ro.R (a:Ro) (r:Nat):Prop:=r=a.key\/r∈keys a.mv\/r∈keys a.sh
def Ro.O (a:Ro) (O:OM) (nb:Option Nat):OM:=fun g=>if some g=nb then some (.r a.key) else (O g).bind a.f
def Ro.apart (a:Ro):Prop:=(a.key::(keys a.mv++keys a.sh)).Nodup
theorem Ro.O9 (a:Ro) {o:Ow} (h:∀ r,a.R r->o≠ .r r/\∀ e c,o≠ .n r e c):a.f o=some o:=by
 cases o with
 | r k =>
  have hk:¬ a.R k:=fun hr=>(h k hr).1 rfl
  simp only [Ro.R,not_or] at hk
  simp [Ro.f,cH.2 hk.2.1,cH.2 hk.2.2,hk.1]
 | n k e c =>
  have hk:¬ a.R k:=fun hr=>(h k hr).2 e c rfl
  simp only [Ro.R,not_or] at hk
  simp [Ro.f,cH.2 hk.2.2,hk.1]
 | _=>rfl
theorem Ro.WS (a:Ro) (cj:∀ g,w.heap.size<=g->γ.O g=none) {nb:Option Nat} {rv':Nat->Value} {cv':Nat->List Value} (YQ:w'.os=w.os) (Cw:w'.tape=w.tape)
  (vL:w'.output=w.output) (mn:w.heap.size<=w'.heap.size) (hn:∀ g,some g=nb->w.heap.size<=g/\g<w'.heap.size)
  (hb:∀ g,g<w.heap.size->γ.O g≠some (.r a.key)->w'.heap[g]? =w.heap[g]?) (vP:∀ r,r≠a.key->rv' r=γ.rv r/\cv' r=γ.cv r) :
  JU a.R γ w { γ with O:=a.O γ.O nb,rv:=rv',cv:=cv' } w':=by
 refine ⟨YQ,Cw,vL,mn,fun g hg hk=>⟨hb g hg ?_,?_⟩,fun g hg=> ?_,rfl,fun r hr=>vP r fun e=>hr (.inl e)⟩
 ·exact (hk a.key (.inl rfl)).1
 ·have Ch:¬ some g=nb:=fun h=>by have:=hn g h; omega
  simp only [Ro.O,if_neg Ch]
  cases ho:γ.O g with
  | none=>rfl
  | some o =>
   show a.f o=some o
   exact a.O9 fun r hr=>by
    obtain ⟨h1,h2⟩:=hk r hr
    rw [ho] at h1 h2
    exact ⟨fun e=>h1 (congrArg some e),fun e c e'=>h2 e c (congrArg some e')⟩
 ·have Ch:¬ some g=nb:=fun h=>by have:=hn g h; omega
  simp only [Ro.O,if_neg Ch,cj g (Nat.le_trans mn hg)]
  rfl
theorem Ro.W2 (a:Ro) (kX:a.apart) (tp:a.dL=2\/a.dL=4\/a.dL=5) {nb:Option Nat} (hn:∀ g,some g=nb->w.heap.size<=g) (cj:∀ g,w.heap.size<=g->γ.O g=none) {xs:List Cv}
  (heap:∀ g o,w.heap[g]? =some o->(∃ x∈xs,Gr M γ x g)->w'.heap[g]? =some o) :
  Iz M γ w (a.O γ.O nb) w' xs a.mv a.sh a.key a.dL:=by
 have hmn:(keys a.mv).Nodup:=by
  have:=kX; simp only [Ro.apart,List.nodup_cons,List.nodup_append] at this; exact this.2.1
 have VO:(keys a.sh).Nodup:=by
  have:=kX; simp only [Ro.apart,List.nodup_cons,List.nodup_append] at this; exact this.2.2.1
 have Ng:∀ k,k∈keys a.sh->lk a.mv k=none:=by
  intro k hk
  rw [cH]
  intro uy
  have:=kX; simp only [Ro.apart,List.nodup_cons,List.nodup_append] at this
  exact this.2.2.2 k uy k hk rfl
 have hO:∀ g o,γ.O g=some o->a.O γ.O nb g=a.f o:=by
  intro g o ho
  have Ch:¬ some g=nb:=fun h=>by have:=cj g (hn g h); rw [this] at ho; cases ho
  simp only [Ro.O,if_neg Ch,ho]; rfl
 refine ⟨heap,fun g hg hi=> ?_,fun r e c hr g hg=> ?_,fun r hr g hg=> ?_,fun r hr g e c hg=> ?_⟩
 ·rcases hi with h | h
  ·have Ch:¬ some g=nb:=fun h'=>by have:=hn g h'; omega
   simp only [Ro.O,if_neg Ch,h]; rfl
  ·rw [hO g _ h,h]; rfl
 ·rw [hO g _ hg]
  simp only [Ro.f,gg hmn hr]
  exact Kw tp
 ·rw [hO g _ hg]
  simp only [Ro.f,Ng r (mem_keys hr),gg VO hr]
 ·rw [hO g _ hg]
  simp only [Ro.f,gg VO hr]
theorem Ro.shared (a:Ro) (kX:a.apart) {nb:Option Nat} (hn:∀ g,some g=nb->w.heap.size<=g) (cj:∀ g,w.heap.size<=g->γ.O g=none)
  (hb:∀ g,g<w.heap.size->γ.O g≠some (.r a.key)->w'.heap[g]? =w.heap[g]?) {r k:Nat} {row:Row} {v:Value} {cs:List Value} (bo:cS X γ.O w r row v cs) (hr:(r,k)∈a.sh)
  (hk:(k=3/\nO 4 row.ow=true)\/(k=4/\row.ow=5)):cS X (a.O γ.O nb) w' r { row with ow:=k } v cs:=by
 have VO:(keys a.sh).Nodup:=by
  have:=kX; simp only [Ro.apart,List.nodup_cons,List.nodup_append] at this; exact this.2.2.1
 have Ng:lk a.mv r=none:=by
  rw [cH]
  intro uy
  have:=kX; simp only [Ro.apart,List.nodup_cons,List.nodup_append] at this
  exact this.2.2.2 r uy r (mem_keys hr) rfl
 have uz:r≠a.key:=by
  have:=kX; simp only [Ro.apart,List.nodup_cons,zH,not_or] at this
  rintro rfl; exact this.1.2 (mem_keys hr)
 have hO:∀ g o,γ.O g=some o->a.O γ.O nb g=a.f o:=by
  intro g o ho
  have Ch:¬ some g=nb:=fun h=>by have:=cj g (hn g h); rw [this] at ho; cases ho
  simp only [Ro.O,if_neg Ch,ho]; rfl
 have z9:=gg VO hr
 have gN:row.ow=4\/row.ow=5:=by
  rcases hk with ⟨_,h⟩ | ⟨_,h⟩
  ·revert h; simp only [nO]; split<;>simp_all
  ·exact .inr h
 have fr:(k=3->a.f (.r r)=some .fz)/\(k=4->a.f (.r r)=some (.r r)):=by
  refine ⟨fun h=> ?_,fun h=> ?_⟩
  ·subst h; simp only [Ro.f,Ng,z9]
  ·subst h; simp only [Ro.f,Ng,z9]
   show (if r=a.key then _ else some (Ow.r r))=_
   rw [if_neg uz]
 refine bo.re ?_ (fun g o hg hi=> ?_) (fun e c g o hg hi=> ?_)
 ·rcases hk with ⟨rfl,_⟩ | ⟨rfl,h⟩
  ·rcases gN with h | h<;>rw [h]<;>rfl
  ·rw [h]; rfl
 ·have hi:γ.O g=some (.r r):=by rcases gN with h | h<;>rw [h] at hi<;>exact hi
  refine ⟨(hb g (bV hg) (by rw [hi]; simp; exact uz)).trans hg,?_⟩
  rw [hO g _ hi]
  rcases hk with ⟨rfl,_⟩ | ⟨rfl,_⟩
  ·rw [fr.1 rfl]; rfl
  ·rw [fr.2 rfl]; rfl
 ·have hi:γ.O g=some (.n r e c)\/γ.O g=some .fz:=by
   rcases gN with h | h<;>rw [h] at hi
   ·exact .inr hi
   ·exact .inl hi
  have h5:a.O γ.O nb g=some .fz:=by
   rcases hi with hi | hi
   ·rw [hO g _ hi]; simp only [Ro.f,z9]
   ·rw [hO g _ hi]; rfl
  refine ⟨(hb g (bV hg) (by rcases hi with h | h<;>rw [h]<;>simp)).trans hg,?_⟩
  rw [h5]
  rcases hk with ⟨rfl,_⟩ | ⟨rfl,_⟩<;>rfl
theorem Nq (hR:Rel X S.lk γ w)
  (D6:∀ r d e c row,lk δ.mv r=some (d,e,c)->S.lk.r r=some row->∃ row',(S.app δ).lk.r d=some row'/\e<row'.xs.length/\(row'.cs e)[c]? =some (.l row.τ row.xs) /\
   (γ'.cv d)[e*sz row'.τ+c]? =some (γ.rv r))
  (hw:∀ r row,S.lk.r r=some row->lk δ.mv r=none->cd r δ.kr=false->(∃ row',(S.app δ).lk.r r=some row')/\γ'.rv r=γ.rv r)
  (hr:∀ r row row',S.lk.r r=some row->lk δ.mv r=none->cd r δ.kr=false->cd r δ.ke=false->(S.app δ).lk.r r=some row'->row'.τ=row.τ/\row.xs.length<=row'.xs.length)
  (hn:∀ r,lk δ.mv r=none->cd r δ.kr=false->cd r δ.ke=false->cd r δ.kn=false->O5 S.lk γ (S.app δ).lk γ' r)
  (hv:∀ k cs,S.lk.v k=some cs->cd k δ.kv=false->(∃ cs',(S.app δ).lk.v k=some cs')/\γ'.vb k=γ.vb k) :
  ∀ x v,bp S.lk γ x v->bp (S.app δ).lk γ' (δ.map x) v:=by
 intro x v hx
 rcases Du δ x with h | ⟨h,h1,h2⟩ | ⟨r,d,e,c,h,hh⟩
 ·rw [h]; exact hx.one hR
 ·rw [h]
  by_cases hs:∃ r,x= .sw r
  ·obtain ⟨r,rfl⟩:=hs
   obtain ⟨⟨row,bo⟩,rfl⟩:=hx
   obtain ⟨h0,h3,_⟩:=h1 r rfl
   obtain ⟨h4,h5⟩:=hw r row bo h0 h3
   exact ⟨h4,h5.symm⟩
  ·have Fu:∀ s,x≠ .sw s:=fun s e=>hs ⟨s,e⟩
   have bo:∀ r,x.row=some r->∃ row,S.lk.r r=some row:=by
    intro r Nm
    cases x<;>simp [Cv.row] at Nm<;>subst Nm
    case sw r=>exact absurd rfl (Fu r)
    case sl=>obtain ⟨row,h,_⟩:=hx; exact ⟨row,h⟩
    case nw=>obtain ⟨row,_,_,h,_⟩:=hx; exact ⟨row,h⟩
    case ns=>obtain ⟨row,_,_,_,h,_⟩:=hx; exact ⟨row,h⟩
    case pe=>obtain ⟨row,h,_⟩:=hx; exact ⟨row,h⟩
    case pn=>obtain ⟨row,_,_,_,h,_⟩:=hx; exact ⟨row,h⟩
   have CX:∀ k∈x.vk,∃ cs,S.lk.v k=some cs:=by
    intro k hk
    cases x<;>simp [Cv.vk] at hk
    case pv=>subst hk; exact hx.1
    case fn=>exact hx.1 k hk
   refine hx.re (fun r cy=> ?_) (fun r cy hi=> ?_) (fun k hk=> ?_)
   ·obtain ⟨h0,h3,h4,_⟩:=h1 r cy
    obtain ⟨row,KY⟩:=bo r cy
    obtain ⟨⟨row',h5⟩,h6⟩:=hw r row KY h0 h3
    refine ⟨fun row2 h7=> ?_,h6⟩
    rw [KY] at h7; cases h7
    obtain ⟨h8,h9⟩:=hr r row row' KY h0 h3 (h4 Fu) h5
    exact ⟨row',h5,h8,h9⟩
   ·obtain ⟨h0,h3,h4,h5⟩:=h1 r cy
    exact hn r h0 h3 (h4 Fu) (h5 hi)
   ·obtain ⟨cs,iW⟩:=CX k hk
    obtain ⟨h3,h4⟩:=hv k cs iW (h2 k hk)
    exact ⟨fun _ _=>h3,h4⟩
 ·rcases hh with ⟨rfl,hm⟩ | ⟨o,n,rfl,hm⟩ | ⟨k,i,rfl,hm⟩
  ·obtain ⟨⟨row,bo⟩,rfl⟩:=hx
   obtain ⟨row',h1,h2,h3,h4⟩:=D6 r d e c row h bo
   rw [hm]; exact ⟨row',row.τ,row.xs,h1,h2,h3,h4⟩
  ·obtain ⟨row,bo,hle,hs⟩:=hx
   obtain ⟨row',h1,h2,h3,h4⟩:=D6 r d e c row h bo
   rw [hm]; exact ⟨row',row.τ,row.xs,_,h1,h2,h3,h4,hle,hs⟩
  ·obtain ⟨row,bo,hle,hs⟩:=hx
   obtain ⟨row',h1,h2,h3,h4⟩:=D6 r d e c row h bo
   rw [hm]; exact ⟨row',row.τ,row.xs,_,h1,h2,h3,h4,hle,hs⟩
theorem tJ {α:Type} (l m:List α) (i N:Nat) (h:i+m.length<=N) (hN:N<=l.length):(Soft.cT l i m).take N=Soft.cT (l.take N) i m:=by
 apply List.ext_getElem?
 intro j
 rw [List.getElem?_take]
 rcases Nat.lt_trichotomy j i with hj | hj | hj
 ·rw [if_pos (by omega),cU _ _ _ _ hj (by omega),cU _ _ _ _ hj (by simp; omega),List.getElem?_take,if_pos (by omega)]
 all_goals
  by_cases h2:j<i+m.length
  ·obtain ⟨d,rfl⟩:∃ d,j=i+d:=⟨j-i,by omega⟩
   rw [if_pos (by omega),dI _ _ _ _ (by omega) (by omega),dI _ _ _ _ (by omega) (by simp; omega)]
  ·rw [cY _ _ _ _ (by omega) (by omega),cY _ _ _ _ (by omega) (by simp; omega),List.getElem?_take]
theorem oz {a:Nat} (h:eu a=true):a=2\/a=4\/a=5:=by revert h; simp only [eu]; split<;>simp_all
theorem tZ {a:Nat} (h:eu a=true):a≠1:=by rcases oz h with rfl | rfl | rfl<;>decide
theorem Im {r:Nat} {row':Row} (h:row'.ow≠1) (k:Nat) (row:Row) (e:(if r=k then some (some row') else none)=some (some row)) (h1:row.ow=1):k<100000:=by
 by_cases hk:r=k
 ·rw [if_pos hk] at e; cases e; exact absurd h1 h
 ·rw [if_neg hk] at e; cases e
theorem Eo {a l:Nat} (h:eu a=true) (hl:l=2\/l=4\/l=5):(min a l=2\/min a l=4\/min a l=5)/\eu (min a l)=true/\nO (min a l) a=true:=by
 rcases oz h with rfl | rfl | rfl<;>rcases hl with rfl | rfl | rfl<;>simp [eu,nO]
theorem Lr {x:Cv} {a:Ab} (h:m.eG x=some a):a.lv=2\/a.lv=4\/a.lv=5:=by
 have lv:∀ n,Re n=2\/Re n=4\/Re n=5:=by intro n; simp only [Re]; split<;>simp
 revert h; simp only [Lk.eG]
 repeat' split
 all_goals (intro h; first | (cases h; done) | (have:=Option.some.inj h; subst this; first | (simp; done) | exact lv _))
theorem qW:∀ {vl:List Cv} {e c:Nat} {a:It},m.bS e c vl=some a->a.lv=2\/a.lv=4\/a.lv=5
 | [],e,c,a,h=>by simp only [Lk.bS,zA] at h; subst h; simp
 | x::vl,e,c,a,h=>by
  simp only [Lk.bS] at h
  cases h1:m.eG x with
  | none=>simp [h1] at h
  | some a1 =>
   cases h2:m.bS e (c+1) vl with
   | none=>simp [h1,h2] at h
   | some a2 =>
    simp only [h1,h2,zA] at h; subst h
    have:=Lr h1
    have:=qW h2
    simp only; omega
theorem Mi {x:Cv} {a:Ab} {r k:Nat} (h:m.eG x=some a) (hs:a.sh=some (r,k)):∃ row,m.r r=some row/\((k=3/\nO 4 row.ow=true)\/(k=4/\row.ow=5)):=by
 revert h; simp only [Lk.eG]
 repeat' split
 all_goals (intro h; first | (cases h; done) | (have:=Option.some.inj h; subst this; simp only [reduceCtorEq,zA,zG] at hs))
 ·obtain ⟨rfl,rfl⟩:=hs
  rename_i h1 h2 h3 _ h5
  exact ⟨_,by assumption,.inr ⟨rfl,by assumption⟩⟩
 ·obtain ⟨rfl,rfl⟩:=hs
  exact ⟨_,by assumption,.inl ⟨rfl,by assumption⟩⟩
theorem mh:∀ {vl:List Cv} {e c:Nat} {a:It} {r k:Nat},m.bS e c vl=some a->(r,k)∈a.sh->∃ row,m.r r=some row/\((k=3/\nO 4 row.ow=true)\/(k=4/\row.ow=5))
 | [],e,c,a,r,k,h,hs=>by simp only [Lk.bS,zA] at h; subst h; simp at hs
 | x::vl,e,c,a,r,k,h,hs=>by
  simp only [Lk.bS] at h
  cases h1:m.eG x with
  | none=>simp [h1] at h
  | some a1 =>
   cases h2:m.bS e (c+1) vl with
   | none=>simp [h1,h2] at h
   | some a2 =>
    simp only [h1,h2,zA] at h; subst h
    simp only at hs
    cases h3:a1.sh with
    | none=>rw [h3] at hs; exact mh h2 hs
    | some p =>
     rw [h3] at hs
     rcases zI.1 hs with h4 | h4
     ·exact Mi h1 (by rw [h3,← h4])
     ·exact mh h2 h4
theorem mG:∀ {vl:List Cv} {e c:Nat} {a:It},m.bS e c vl=some a->a.iD.length=vl.length
 | [],e,c,a,h=>by simp only [Lk.bS,zA] at h; subst h; rfl
 | x::vl,e,c,a,h=>by
  simp only [Lk.bS] at h
  cases h1:m.eG x with
  | none=>simp [h1] at h
  | some a1 =>
   cases h2:m.bS e (c+1) vl with
   | none=>simp [h1,h2] at h
   | some a2 =>
    simp only [h1,h2,zA] at h; subst h
    simp [mG h2]
theorem L3 {x:Cv} {a:Ab} {r:Nat} (h:m.eG x=some a) (hs:a.mv=some r):∃ row,m.r r=some row/\x= .sw r/\a.ct= .l row.τ row.xs:=by
 revert h; simp only [Lk.eG]
 repeat' split
 all_goals (intro h; first | (cases h; done) | (have:=Option.some.inj h; subst this; simp only [reduceCtorEq,zA] at hs))
 subst hs
 exact ⟨_,by assumption,rfl,rfl⟩
theorem A4:∀ {vl:List Cv} {e c:Nat} {a:It} {r e' c':Nat},m.bS e c vl=some a->(r,(e',c'))∈a.mv->∃ row j,m.r r=some row/\e'=e/\c'=c+j/\vl[j]? =some (.sw r)/\a.iD[j]? =some (.l row.τ row.xs)
 | [],e,c,a,r,e',c',h,hs=>by simp only [Lk.bS,zA] at h; subst h; simp at hs
 | x::vl,e,c,a,r,e',c',h,hs=>by
  simp only [Lk.bS] at h
  cases h1:m.eG x with
  | none=>simp [h1] at h
  | some a1 =>
   cases h2:m.bS e (c+1) vl with
   | none=>simp [h1,h2] at h
   | some a2 =>
    simp only [h1,h2,zA] at h; subst h
    simp only at hs
    have rest:(r,(e',c'))∈a2.mv->∃ row j,m.r r=some row/\e'=e/\c'=c+j/\(x::vl)[j]? =some (.sw r)/\(a1.ct::a2.iD)[j]? =some (.l row.τ row.xs):=by
     intro h4
     obtain ⟨row,j,h5,h6,h7,h8,h9⟩:=A4 h2 h4
     exact ⟨row,j+1,h5,h6,by omega,by simpa using h8,by simpa using h9⟩
    cases h3:a1.mv with
    | none=>rw [h3] at hs; exact rest hs
    | some k =>
     rw [h3] at hs
     rcases zI.1 hs with h4 | h4
     ·simp only [zG] at h4
      obtain ⟨rfl,rfl,rfl⟩:=h4
      obtain ⟨row,h5,rfl,h7⟩:=L3 h1 h3
      exact ⟨row,0,h5,rfl,rfl,rfl,by simpa using h7⟩
     ·exact rest h4
theorem IV {x:Cv} {a:Ab} {r:Nat} {row:Row} (h:m.eG x=some a) (hx:x= .sw r\/∃ o n,x= .sl r o n) (hr:m.r r=some row) (ho:eu row.ow=true):a.mv=some r\/∃ k,a.sh=some (r,k):=by
 rcases hx with rfl | ⟨o,n,rfl⟩
 ·simp only [Lk.eG,hr,ho] at h
  revert h; split
  ·intro h; cases h
  ·intro h; cases h; exact .inl rfl
 ·simp only [Lk.eG,Cv.row,Cv.inner,hr,ho] at h
  revert h
  repeat' split
  all_goals (intro h; first | (cases h; done) | (cases h; exact .inr ⟨_,rfl⟩) | skip)
  all_goals simp_all
  all_goals (subst h; exact .inr ⟨_,rfl⟩)
theorem yN:∀ {vl:List Cv} {e c:Nat} {a:It} {x:Cv} {r:Nat} {row:Row},m.bS e c vl=some a->x∈vl->(x= .sw r\/∃ o n,x= .sl r o n)->m.r r=some row->eu row.ow=true ->
  r∈keys a.mv\/r∈keys a.sh
 | [],e,c,a,x,r,row,h,hx,_,_,_=>by simp at hx
 | y::vl,e,c,a,x,r,row,h,hx,Nm,hr,ho=>by
  simp only [Lk.bS] at h
  cases h1:m.eG y with
  | none=>simp [h1] at h
  | some a1 =>
   cases h2:m.bS e (c+1) vl with
   | none=>simp [h1,h2] at h
   | some a2 =>
    simp only [h1,h2,zA] at h; subst h
    simp only
    rcases zI.1 hx with rfl | hx
    ·rcases IV h1 Nm hr ho with h3 | ⟨k,h3⟩
     ·left; rw [h3]; simp [keys]
     ·right; rw [h3]; simp [keys]
    ·rcases yN h2 hx Nm hr ho with h3 | h3
     ·left; split
      ·simp [keys,h3]
      ·exact h3
     ·right; split
      ·simp [keys,h3]
      ·exact h3
def qK (r e c:Nat) (row:Row) (vl:List Cv) (a:It):Ro :=
 ⟨r,min row.ow a.lv,true,fun e' c'=>decide (e'=e)&&(decide (c<=c')&&decide (c'<c+vl.length)),a.mv,a.sh⟩
def QB (γ:Gh) (r e c:Nat) (row:Row) (vl:List Cv) (a:It) (us:List Value):Gh :=
 { γ with O:=(qK r e c row vl a).O γ.O none,cv:=dZ γ.cv r (Soft.cT (γ.cv r) (e*sz row.τ+c) us) }
theorem vm {r e c ow k:Nat} {o:Option Ow} (h:In (dP r e c ow) o):o≠some (.r k):=by
 revert h; simp only [dP]; split
 ·intro h; have h:o=_:=h; rw [h]; simp
 ·intro h; have h:o=_:=h; rw [h]; simp
 ·intro h; have h:o=_:=h; rw [h]; simp
 ·rintro (h | h)<;>rw [h]<;>simp
theorem Ro.nes (a:Ro) (hk:a.key∉keys a.sh) {rX:Nat} (hold:eu rX=true) (tp:a.dL=2\/a.dL=4\/a.dL=5) (hle:nO a.dL rX=true) {e c g:Nat} {O:OM} (hd:a.dead e c=false)
  (h:In (dP a.key e c rX) (O g)):In (dP a.key e c a.dL) (a.O O none g):=by
 have hn:O g=none->a.O O none g=none:=fun h=>by simp [Ro.O,h]
 have hf:O g=some .fz->a.O O none g=some .fz:=fun h=>by simp [Ro.O,h,Ro.f]
 have ho:O g=some (.n a.key e c)->a.O O none g=some (dn a.dL a.key e c):=fun h=>by simp [Ro.O,h,Ro.f,cH.2 hk,hd]
 rcases oz hold with rfl | rfl | rfl
 ·have h2:a.dL=2:=by rcases tp with h | h | h<;>rw [h] at hle<;>simp_all [nO]
  rw [h2]
  rcases h with h | h
  ·exact .inl (hn h)
  ·exact .inr (hf h)
 ·have h:O g=some .fz:=h
  rcases tp with h2 | h2 | h2
  ·rw [h2]; exact .inr (hf h)
  ·rw [h2]; exact hf h
  ·rw [h2] at hle; simp [nO] at hle
 ·have h:O g=some (.n a.key e c):=h
  rw [ho h]
  exact Kw tp
theorem OT (hR:Rel X S.lk γ w) (cj:∀ g,w.heap.size<=g->γ.O g=none) (hm:Le m S.lk) {r e c:Nat} {row:Row} {vl:List Cv} {a:It} {y:El row.τ} {av v:Value} {t:TypeId}
  (hr:m.r r=some row) (ho:eu row.ow=true) (ha:m.bS e c vl=some a) (hlen:c+vl.length<=sz row.τ) (hy:rO row.τ (Soft.cT (row.cs e) c a.iD)=some y)
  (xi:CC row.τ a.iD=true) (kX:(qK r e c row vl a).apart) (hv:b9 S.lk γ vl v.cells.toList) (P3:bp S.lk γ (.pe r e c) av) (hs:vl.length=fV X.P t) (hp:0<vl.length) :
  ∃ w',(Instr.storeAt t av v).run X.P w= .ok () w'/\JU (qK r e c row vl a).R γ w (QB γ r e c row vl a v.cells.toList) w' /\
   cS X ((qK r e c row vl a).O γ.O none) w' r { row with xs:=row.xs.set e y,ow:=min row.ow a.lv } (γ.rv r) (Soft.cT (γ.cv r) (e*sz row.τ+c) v.cells.toList) /\
   (∀ g,g<w.heap.size->γ.O g≠some (.r r)->w'.heap[g]? =w.heap[g]?)/\(∀ e':Nat,e'≠e->({ row with xs:=row.xs.set e y,ow:=min row.ow a.lv }:Row).cs e'=row.cs e') /\
   (({ row with xs:=row.xs.set e y,ow:=min row.ow a.lv }:Row).cs e=Soft.cT (row.cs e) c a.iD)/\e<row.xs.length:=by
 have fO:=hm.r r row hr
 obtain ⟨row',cy,he,g,o,n',cap,hb,rfl⟩:=P3
 rw [fO] at cy; cases cy
 have bo:=hR.rs r row fO
 have Ci:dN r row.ow= .own (.r r):=by simp [dN,ho]
 have Cw:=bo.top
 rw [Ci] at Cw
 obtain ⟨gN,oN⟩:=Cw
 obtain ⟨Vx,abR,XY⟩:=Eo ho (qW ha)
 have hul:v.cells.size=vl.length:=by have:=hv.length; simp at this; omega
 rcases gN.2 with ⟨h1,_⟩ | ⟨g1,cap1,cur,h1,_,hg,HX,QF,iW,ht⟩
 ·rw [h1] at hb; cases hb
 have MT:g1=g/\0=o:=by
  rw [h1] at hb; injection hb with h _ _; injection h with h; injection h with h2 h3 _; exact ⟨h2,h3⟩
 obtain ⟨rfl,rfl⟩:=MT
 have PO:γ.O g1=some (.r r):=oN g1 (by rw [h1]; rfl)
 have fP:=bV hg
 have VS:(e+1)*sz row.τ<=row.xs.length*sz row.τ:=zP _ he
 rw [Nat.add_mul] at VS
 have Wk:row.xs.length*sz row.τ<=cur.size:=by rw [iW]; exact zP _ HX
 have mV:(γ.cv r).length=row.xs.length*sz row.τ:=gN.1
 have ni:=yp (X:=X) (t:=t) (v:=v) (o:=0+(e*sz row.τ+c)) hg (by omega) (by omega) (by omega) (hv.one hR)
 rw [Nat.zero_add] at ni
 have iU:∀ g,g<w.heap.size->γ.O g≠some (.r r)->(w.setRow g1 (Soft.cT cur.toList (e*sz row.τ+c) v.cells.toList).toArray).heap[g]? =w.heap[g]? :=
  fun g _ cL=>l8 w _ _ g (fun h=>cL (by rw [h]; exact PO))
 have ab2:=qn hy (fun MS=>by
  have gY:row.τ= .byte:=by revert MS; cases row.τ<;>simp [Ty.isByte]
  have:Soft.cT (row.cs e) c a.iD=a.iD:=by
   have h2:sz row.τ=1:=by rw [gY]; rfl
   have h3:(row.cs e).length=1:=by rw [vq,bc,h2]
   have h4:=(mG ha)
   have h5:c=0:=by omega
   subst h5
   have h6:vl.length=1:=by omega
   simp only [Soft.cT,h4,h6,List.take_zero,List.nil_append,Nat.zero_add]
   rw [List.drop_of_length_le (by omega),List.append_nil]
  rw [this]; exact xi)
 have T5:a.iD.length=vl.length:=mG ha
 have V0:(row.cs e).length=sz row.τ:=bc _ _
 have zq:({ row with xs:=row.xs.set e y,ow:=min row.ow a.lv }:Row).cs e=Soft.cT (row.cs e) c a.iD:=by
  simp only [Row.cs]
  rw [show (row.xs.set e y).getD e (cg row.τ)=y by simp [List.getD,he]]
  exact ab2
 have Ft:∀ e':Nat,e'≠e->({ row with xs:=row.xs.set e y,ow:=min row.ow a.lv }:Row).cs e'=row.cs e':=by
  intro e' cL
  simp only [Row.cs]
  rw [show (row.xs.set e y).getD e' (cg row.τ)=row.xs.getD e' (cg row.τ) by simp [List.getD,List.getElem?_set,Ne.symm cL]]
 have KY:r∉keys a.mv/\r∉keys a.sh:=by
  have:=kX; simp only [Ro.apart,qK,List.nodup_cons,zH,not_or] at this; exact this.1
 have hOf:∀ g o,γ.O g=some o->(qK r e c row vl a).O γ.O none g=(qK r e c row vl a).f o:=by
  intro g o h; simp only [Ro.O,h]; simp
 have D7:(qK r e c row vl a).f (.r r)=some (.r r):=by
  simp [Ro.f,qK,cH.2 KY.1,cH.2 KY.2]
 refine ⟨_,by rw [Nat.zero_add]; exact ni,?_,?_,iU,Ft,zq,he⟩
 ·exact (qK r e c row vl a).WS cj rfl rfl rfl (by simp) (by simp) iU (fun r' cL=>by simp only [dZ]; have cL:r'≠r:=cL; simp [cL])
 ·refine ⟨?_,fun e' c' ct T3 dg=> ?_⟩
  ·have Yy:dN r (min row.ow a.lv)= .own (.r r):=by simp [dN,abR]
   rw [Yy]
   refine ⟨⟨?_,.inr ⟨g1,cap1,_,?_,Nat.zero_le _,sA w _ _ _ _ _ hg,?_,QF,?_,?_⟩⟩,fun g rY=> ?_⟩
   ·rw [g9 _ _ _ (by rw [mV]; simp; omega),mV]; simp
   ·rw [h1]; simp
   ·simpa using HX
   ·simp [g9 _ _ _ (show e*sz row.τ+c+v.cells.toList.length<=cur.toList.length by simp; omega),iW]
   ·rw [List.length_set]
    simp only [List.toList_toArray]
    rw [tJ _ _ _ _ (by simp; omega) (by simpa using Wk),ht]
   ·rw [hOf g (.r r) (oN g rY),D7]
  ·have SA:e'<row.xs.length:=by simpa using T3
   have rX:∀ ct u,(row.cs e')[c']? =some ct->fW X γ.O w (dP r e' c' row.ow) ct u->(e'≠e\/c'<c\/c+vl.length<=c') ->
     fW X ((qK r e c row vl a).O γ.O none) (w.setRow g1 (Soft.cT cur.toList (e*sz row.τ+c) v.cells.toList).toArray) (dP r e' c' (min row.ow a.lv)) ct u:=by
    intro ct u dg eD vL
    refine eD.re (fun g o hg hi=> ?_) (Fl XY r r e' c')
    refine ⟨(iU g (bV hg) (vm hi)).trans hg,?_⟩
    refine (qK r e c row vl a).nes KY.2 ho Vx XY ?_ hi
    simp only [qK]
    by_cases h1:e'=e
    ·have h2:¬ (c<=c'/\c'<c+vl.length):=by omega
     simp only [h1,zV,Bool.true_and,Bool.and_eq_false_iff,decide_eq_false_iff_not]
     omega
    ·simp [h1]
   by_cases JG:e'=e
   ·subst JG
    rw [zq] at dg
    by_cases zb:c<=c'/\c'<c+vl.length
    ·obtain ⟨j,rfl⟩:∃ j,c'=c+j:=⟨c'-c,by omega⟩
     rw [dI _ _ _ _ (by omega) (by omega)] at dg
     have VZ:=(qK r e' c row vl a).W2 (M:=S.lk) kX Vx (w:=w) (w':=w.setRow g1 (Soft.cT cur.toList (e'*sz row.τ+c) v.cells.toList).toArray) (γ:=γ) (nb:=none) (by simp) cj (xs:=vl)
      (fun g o hg hi=> ?_)
     ·obtain ⟨_,h2⟩:=Aj hm hR Vx vl _ c a hv ha (Nat.min_le_right _ _) VZ
      obtain ⟨u,hu,eD⟩:=h2 j ct dg
      exact ⟨u,by rw [show e'*sz row.τ+(c+j)=e'*sz row.τ+c+j by omega,dI _ _ _ _ (by simp; omega) (by rw [mV]; simp; omega)]; exact hu,eD⟩
     ·refine (iU g (bV hg) ?_).trans hg
      obtain ⟨x,hx,hi⟩:=hi
      have top:∀ r' row',(x= .sw r'\/∃ o n,x= .sl r' o n)->S.lk.r r'=some row'->In (dN r' row'.ow) (γ.O g)->γ.O g≠some (.r r):=by
       intro r' row' Nm cy zb heq
       have abU:r'=r:=by
        rcases E2 zb with h | h | h | ⟨_,_,h⟩<;>rw [heq] at h<;>simp at h
        exact h.symm
       subst abU
       rcases yN ha hx Nm hr ho with h | h
       ·exact KY.1 h
       ·exact KY.2 h
      cases x<;>simp only [Gr] at hi<;>try exact hi.elim
      all_goals obtain ⟨row',cy,zb⟩:=hi
      ·exact top _ _ (.inl rfl) cy zb
      ·exact top _ _ (.inr ⟨_,_,rfl⟩) cy zb
      ·exact vm zb
      ·exact vm zb
    ·have vL:c'<c\/c+vl.length<=c':=by omega
     have PV:(row.cs e')[c']? =some ct:=by
      rcases vL with h | h
      ·rwa [cU _ _ _ _ h (by omega)] at dg
      ·rwa [cY _ _ _ _ (by omega) (by omega)] at dg
     obtain ⟨u,hu,eD⟩:=bo.rA e' c' ct SA PV
     have lH:c'<sz row.τ:=by have:=(zU.1 PV).1; omega
     refine ⟨u,?_,rX ct u PV eD (.inr vL)⟩
     show (Soft.cT (γ.cv r) (e'*sz row.τ+c) _)[e'*sz row.τ+c']? =some u
     rcases vL with h | h
     ·rw [cU _ _ _ _ (by omega) (by rw [mV]; omega)]; exact hu
     ·rw [cY _ _ _ _ (by simp; omega) (by rw [mV]; simp; omega)]; exact hu
   ·rw [Ft e' JG] at dg
    obtain ⟨u,hu,eD⟩:=bo.rA e' c' ct SA dg
    have lH:c'<sz row.τ:=by have:=(zU.1 dg).1; rw [vq,bc] at this; exact this
    refine ⟨u,?_,rX ct u dg eD (.inl JG)⟩
    show (Soft.cT (γ.cv r) (e*sz row.τ+c) _)[e'*sz row.τ+c']? =some u
    rcases Nat.lt_or_gt_of_ne JG with h | h
    ·have h3:(e'+1)*sz row.τ<=e*sz row.τ:=zP _ h
     rw [Nat.add_mul] at h3
     rw [cU _ _ _ _ (by omega) (by rw [mV]; omega)]; exact hu
    ·have h3:(e+1)*sz row.τ<=e'*sz row.τ:=zP _ h
     rw [Nat.add_mul] at h3
     rw [cY _ _ _ _ (by simp; omega) (by rw [mV]; simp; omega)]; exact hu
theorem O2 (mv:List (Nat×(Nat×Nat))) (k:Nat):fh (gone mv) k=if k∈keys mv then some none else none:=by
 induction mv with
 | nil=>simp [gone,fh,keys]
 | cons p mv ih =>
  obtain ⟨j,q⟩:=p
  simp only [gone,fh,ih,keys,zI]
  by_cases h1:k∈keys mv
  ·simp [h1]
  ·by_cases h2:j=k
   ·simp [h1,h2]
   ·simp [h1,h2,Ne.symm h2]
theorem LA {sh:List (Nat×Nat)} (hn:(keys sh).Nodup) (hp:∀ r k,(r,k)∈sh->∃ row,m.r r=some row) (k:Nat) :
  fh (m.share sh) k=match lk sh k with | some n=>(m.r k).map (fun row=>some { row with ow:=n }) | none=>none:=by
 induction sh with
 | nil=>rfl
 | cons p sh ih =>
  obtain ⟨r,n⟩:=p
  simp only [keys,List.nodup_cons] at hn
  obtain ⟨row,hr⟩:=hp r n (by simp)
  have ih:=ih hn.2 (fun r k h=>hp r k (zJ _ h))
  simp only [Lk.share,hr,fh,lk]
  cases hb:Nat.beq r k with
  | true =>
   have:=aF hb; subst this
   rw [ih,cH.2 hn.1]
   simp [hr]
  | false =>
   have cL:¬ r=k:=by rintro rfl; rw [Nat.beq_refl] at hb; cases hb
   rw [ih]
   simp only [cL,if_false]
   cases lk sh k with
   | none=>rfl
   | some n=>cases m.r k<;>rfl
theorem N7 (r:Nat) (mv:List (Nat×(Nat×Nat))) (k:Nat):lk (Un r mv) k=(lk mv k).map fun p=>(r,p.1,p.2):=by
 induction mv with
 | nil=>rfl
 | cons p mv ih =>
  obtain ⟨j,e,c⟩:=p
  simp only [Un,lk]
  cases Nat.beq j k<;>simp [ih]
def UJ (m:Lk) (r:Nat) (row':Row) (a:It):Dl:={ Dl.z with mv:=Un r a.mv,kn:=[r],rs:=gone a.mv++(m.share a.sh++[(r,some row')]) }
theorem xT {r:Nat} {row':Row} {a:It} (kX:(r::(keys a.mv++keys a.sh)).Nodup) (hp:∀ r k,(r,k)∈a.sh->∃ row,m.r r=some row) (k:Nat) :
  fh (UJ m r row' a).rs k=if r=k then some (some row') else match lk a.sh k with
   | some n=>(m.r k).map (fun row=>some { row with ow:=n })
   | none=>if k∈keys a.mv then some none else none:=by
 have VO:(keys a.sh).Nodup:=by
  simp only [List.nodup_cons,List.nodup_append] at kX; exact kX.2.2.1
 simp only [UJ,ia,Kj,LA VO hp,O2]
 by_cases h:r=k
 ·simp [h]
 ·simp only [h,if_false]
  cases hl:lk a.sh k with
  | none=>rfl
  | some n =>
   obtain ⟨row,hr⟩:=hp k n (cM hl)
   simp [hr]
theorem RA (hR:Rel X S.lk γ w) (cj:∀ g,w.heap.size<=g->γ.O g=none) (hm:Le m S.lk) {r e c:Nat} {row:Row} {vl:List Cv} {a:It} {y:El row.τ} {av v:Value} {t:TypeId}
  (hr:m.r r=some row) (ho:eu row.ow=true) (ha:m.bS e c vl=some a) (hlen:c+vl.length<=sz row.τ) (hy:rO row.τ (Soft.cT (row.cs e) c a.iD)=some y)
  (xi:CC row.τ a.iD=true) (kX:(r::(keys a.mv++keys a.sh)).Nodup) (hv:b9 S.lk γ vl v.cells.toList) (P3:bp S.lk γ (.pe r e c) av) (hs:vl.length=fV X.P t) (hp:0<vl.length) :
  ∃ w' γ',(Instr.storeAt t av v).run X.P w= .ok () w'/\Step X S γ w (UJ m r { row with xs:=row.xs.set e y,ow:=min row.ow a.lv } a) γ' w':=by
 obtain ⟨w',ni,tq,bo,iU,Ft,zq,he⟩:=OT hR cj hm hr ho ha hlen hy xi kX hv P3 hs hp
 have fO:=hm.r r row hr
 have JB:∀ r k,(r,k)∈a.sh->∃ row,m.r r=some row:=fun r k h=>let ⟨row,h1,_⟩:=mh ha h; ⟨row,h1⟩
 have VO:(keys a.sh).Nodup:=by
  have:=kX; simp only [List.nodup_cons,List.nodup_append] at this; exact this.2.2.1
 have KY:r∉keys a.mv/\r∉keys a.sh:=by
  have:=kX; simp only [List.nodup_cons,zH,not_or] at this; exact this.1
 have Ng:∀ k,k∈keys a.mv->lk a.sh k=none:=by
  intro k hk
  rw [cH]; intro uy
  have:=kX; simp only [List.nodup_cons,List.nodup_append] at this
  exact this.2.2.2 k hk k uy rfl
 have hmn:(keys a.mv).Nodup:=by
  have:=kX; simp only [List.nodup_cons,List.nodup_append] at this; exact this.2.1
 let row':Row:={ row with xs:=row.xs.set e y,ow:=min row.ow a.lv }
 have cy:(S.app (UJ m r row' a)).lk.r r=some row':=by rw [kO,xT kX JB]; simp
 have Fx:∀ k rk,k≠r->S.lk.r k=some rk->k∉keys a.mv->∃ rk',(S.app (UJ m r row' a)).lk.r k=some rk'/\rk'.τ=rk.τ/\rk'.xs.length=rk.xs.length/\∀ e,rk'.cs e=rk.cs e:=by
  intro k rk cL hk Fz
  rw [kO,xT kX JB,if_neg (Ne.symm cL)]
  cases hl:lk a.sh k with
  | none=>simp only [Fz,if_false]; exact ⟨rk,hk,rfl,rfl,fun _=>rfl⟩
  | some n =>
   obtain ⟨row2,h2⟩:=JB k n (cM hl)
   have h3:=hm.r k row2 h2
   rw [hk] at h3; cases h3
   simp only [h2,Option.map_some]
   exact ⟨_,rfl,rfl,rfl,fun _=>rfl⟩
 have PR:∀ k,lk (UJ m r row' a).mv k=none->k∉keys a.mv:=by
  intro k h
  have h:lk (Un r a.mv) k=none:=h
  rw [N7] at h
  rw [← cH]; cases h2:lk a.mv k with
  | none=>rfl
  | some p=>rw [h2] at h; cases h
 refine ⟨w',QB γ r e c row vl a v.cells.toList,ni,lU hR rfl tq ?_ ?_ ?_ (fun k rk h h1=>by
  rw [xT kX JB] at h
  by_cases kV:r=k
  ·rw [if_pos kV] at h; cases h; exact absurd h1 (tZ (Eo ho (qW ha)).2.1)
  ·rw [if_neg kV] at h
   cases hl:lk a.sh k with
   | none=>rw [hl] at h; simp only at h; split at h<;>cases h
   | some n =>
    rw [hl] at h; simp only at h
    obtain ⟨row2,h2,h3⟩:=mh ha (cM hl)
    rw [h2] at h; simp only [Option.map_some,zA] at h; subst h
    exfalso; rcases h3 with ⟨h3,_⟩ | ⟨h3,_⟩<;>rw [h3] at h1<;>cases h1) (fun _ _ _=>rfl)⟩
 ·refine Nq hR (fun k d e' c' rk h hk=> ?_) (fun k rk hk hn _=> ?_) (fun k rk rk' hk hn _ _ h=> ?_) (fun k hn _ _ Fq=>⟨fun rk rk' hk h=> ?_⟩) (fun k cs hk _=> ?_)
  ·have h:lk (Un r a.mv) k=some (d,e',c'):=h
   rw [N7] at h
   cases hl:lk a.mv k with
   | none=>rw [hl] at h; cases h
   | some p =>
    obtain ⟨e1,c1⟩:=p
    rw [hl] at h; simp only [Option.map_some,zA,zG] at h
    obtain ⟨rfl,rfl,rfl⟩:=h
    obtain ⟨rk2,j,h1,rfl,rfl,h4,h5⟩:=A4 ha (cM hl)
    have HS:=hm.r k rk2 h1
    rw [hk] at HS; cases HS
    have Nj:=mG ha
    have No:j<vl.length:=(zU.1 h4).1
    have V0:(row.cs e1).length=sz row.τ:=bc _ _
    have mV:(γ.cv r).length=row.xs.length*sz row.τ:=(hR.rs r row fO).top.ze.1
    have VS:(e1+1)*sz row.τ<=row.xs.length*sz row.τ:=zP _ he
    rw [Nat.add_mul] at VS
    obtain ⟨u,hu,hc⟩:=hv.get h4
    have hul:=hv.length
    refine ⟨row',cy,by simpa [row'] using he,?_,?_⟩
    ·show (({ row with xs:=row.xs.set e1 y,ow:=min row.ow a.lv }:Row).cs e1)[c+j]? =_
     rw [zq,dI _ _ _ _ (by omega) (by omega)]; exact h5
    ·show (dZ γ.cv r (Soft.cT (γ.cv r) (e1*sz row.τ+c) v.cells.toList) r)[e1*sz row.τ+(c+j)]? =_
     simp only [dZ,if_true]
     rw [show e1*sz row.τ+(c+j)=e1*sz row.τ+c+j by omega,dI _ _ _ _ (by omega) (by rw [mV]; omega),hu,hc.2]
  ·refine ⟨?_,rfl⟩
   by_cases kV:k=r
   ·subst kV; exact ⟨_,cy⟩
   ·obtain ⟨rk',h1,_⟩:=Fx k rk kV hk (PR k hn); exact ⟨rk',h1⟩
  ·by_cases kV:k=r
   ·subst kV
    rw [cy] at h; cases h
    rw [fO] at hk; cases hk
    exact ⟨rfl,by simp [row']⟩
   ·obtain ⟨rk2,h1,h2,h4,_⟩:=Fx k rk kV hk (PR k hn)
    rw [h] at h1; cases h1
    exact ⟨h2,by omega⟩
  ·have kV:k≠r:=J4.1 Fq
   obtain ⟨rk2,h1,h2,h4,h5⟩:=Fx k rk kV hk (PR k hn)
   rw [h] at h1; cases h1
   intro e1 c1 τ ys _ hc
   exact ⟨⟨ys,by rw [h5]; exact hc,Nat.le_refl _⟩,by simp [QB,dZ,kV]⟩
  ·rw [nZ]; exact ⟨⟨_,by simp [UJ,Dl.z,fh,hk]; rfl⟩,rfl⟩
 ·intro k rk h
  rw [xT kX JB] at h
  by_cases kV:r=k
  ·subst kV
   rw [if_pos rfl] at h; cases h
   simpa [QB,dZ] using bo
  ·rw [if_neg kV] at h
   cases hl:lk a.sh k with
   | none =>
    rw [hl] at h; simp only at h
    split at h<;>cases h
   | some n =>
    rw [hl] at h; simp only at h
    obtain ⟨row2,h2,h3⟩:=mh ha (cM hl)
    rw [h2] at h; simp only [Option.map_some,zA] at h; subst h
    have:=(qK r e c row vl a).shared (w:=w) (w':=w') (γ:=γ) kX (nb:=none) (by simp) cj iU (hR.rs k row2 (hm.r k row2 h2)) (cM hl) h3
    have cL:k≠r:=Ne.symm kV
    simpa [QB,dZ,cL] using this
 ·intro k rk h hk VP
  rw [xT kX JB] at h
  rcases VP with h1 | h1 | h1
  ·have h1:k=r:=h1
   rw [if_pos h1.symm] at h; cases h
  ·have h1:k∈keys a.mv:=h1
   by_cases kV:r=k
   ·rw [if_pos kV] at h; cases h
   ·rw [if_neg kV,Ng k h1] at h; simp [h1] at h
  ·have h1:k∈keys a.sh:=h1
   by_cases kV:r=k
   ·rw [if_pos kV] at h; cases h
   ·rw [if_neg kV] at h
    cases hl:lk a.sh k with
    | none=>exact absurd h1 (cH.1 hl)
    | some n =>
     obtain ⟨row2,h2⟩:=JB k n (cM hl)
     rw [hl] at h; simp [h2] at h
theorem GJ {τ:Ty} (x y:El τ) {c:Nat} {σ:Ty} {ys:List (El σ)} (h:(cells τ x)[c]? =some (.l σ ys)):∃ ys':List (El σ),(cells τ y)[c]? =some (.l σ ys'):=by
 have key:∀ (l l':List Ct),l.length=l'.length->(∀ (i:Nat) (a b:Ct),l[i]? =some a->l'[i]? =some b->∀ (σ:Ty) (ys:List (El σ)),a=Ct.l σ ys->∃ zs:List (El σ),b=Ct.l σ zs) ->
   l[c]? =some (.l σ ys)->∃ ys':List (El σ),l'[c]? =some (.l σ ys'):=by
  intro l l' hl hk hc
  have fP:c<l'.length:=by have:=(zU.1 hc).1; omega
  have hb:l'[c]? =some l'[c]:=List.getElem?_eq_getElem fP
  obtain ⟨zs,hz⟩:=hk c _ _ hc hb σ ys rfl
  exact ⟨zs,by rw [hb,hz]⟩
 refine key _ _ (by rw [bc,bc]) ?_ h
 intro i a b ha hb σ ys e
 subst e
 cases τ<;>simp only [cells] at ha hb <;>
  (repeat (rcases i with _ | i<;>first
   | (simp only [List.getElem?_cons_zero,zA,reduceCtorEq] at ha; done)
   | (simp only [List.getElem?_cons_zero,zA] at ha hb; cases ha; subst hb; exact ⟨_,rfl⟩)
   | (simp only [List.getElem?_cons_succ,List.getElem?_nil,reduceCtorEq] at ha; done)
   | simp only [List.getElem?_cons_succ] at ha hb))
theorem yQ:∀ {vl:List Cv} {e c:Nat} {a:It},jy vl=true->m.bS e c vl=some a->a.mv=[]/\a.sh=[]/\a.lv=5/\∀ (j:Nat) (σ:Ty) (ys:List (El σ)),a.iD[j]? ≠some (.l σ ys)
 | [],e,c,a,_,h=>by simp only [Lk.bS,zA] at h; subst h; simp
 | x::vl,e,c,a,hf,h=>by
  have hx:∃ ct,m.eG x=some ⟨ct,none,none,5⟩/\(∀ (σ:Ty) (ys:List (El σ)),ct≠ .l σ ys)/\jy vl=true:=by
   cases x<;>simp only [jy] at hf<;>first | (cases hf; done) | exact ⟨_,rfl,by simp,hf⟩
  obtain ⟨ct,h1,dg,hf⟩:=hx
  simp only [Lk.bS,h1] at h
  cases h2:m.bS e (c+1) vl with
  | none=>simp [h2] at h
  | some a2 =>
   simp only [h2,zA] at h; subst h
   obtain ⟨i1,i2,i3,i4⟩:=yQ hf h2
   refine ⟨i1,i2,by simp [i3],fun j σ ys=> ?_⟩
   cases j with
   | zero=>simp; exact dg σ ys
   | succ j=>simpa using i4 j σ ys
def WZ (r:Nat) (row':Row):Dl:={ Dl.z with rs:=[(r,some row')] }
theorem Lq (S:St) (r:Nat) (row':Row) (k:Nat):(S.app (WZ r row')).lk.r k=if r=k then some row' else S.lk.r k:=by
 rw [kO]
 show (match (if r=k then some (some row') else none) with | some r=>r | none=>_)=_
 by_cases h:r=k<;>simp [h]
theorem Xb (S:St) (r:Nat) (row':Row) (k:Nat):(S.app (WZ r row')).lk.v k=(S.lk.v k).map (List.map (WZ r row').map):=by rw [nZ]; rfl
theorem RY (hR:Rel X S.lk γ w) (cj:∀ g,w.heap.size<=g->γ.O g=none) (hm:Le m S.lk) {r e c:Nat} {row:Row} {vl:List Cv} {a:It} {y:El row.τ} {av v:Value} {t:TypeId}
  (hr:m.r r=some row) (ho:eu row.ow=true) (Aa:jy vl=true) (ha:m.bS e c vl=some a) (hlen:c+vl.length<=sz row.τ) (hy:rO row.τ (Soft.cT (row.cs e) c a.iD)=some y)
  (xi:CC row.τ a.iD=true) (hv:b9 S.lk γ vl v.cells.toList) (P3:bp S.lk γ (.pe r e c) av) (hs:vl.length=fV X.P t) (hp:0<vl.length) :
  ∃ w' γ',(Instr.storeAt t av v).run X.P w= .ok () w'/\Step X S γ w (WZ r { row with xs:=row.xs.set e y }) γ' w':=by
 obtain ⟨fmv,fsh,flv,fct⟩:=yQ Aa ha
 have kX:(qK r e c row vl a).apart:=by simp [Ro.apart,qK,fmv,fsh,keys]
 obtain ⟨w',ni,tq,bo,iU,Ft,zq,he⟩:=OT hR cj hm hr ho ha hlen hy xi kX hv P3 hs hp
 have fO:=hm.r r row hr
 have abV:min row.ow a.lv=row.ow:=by rw [flv]; rcases oz ho with h | h | h<;>rw [h]<;>rfl
 rw [abV] at bo Ft zq
 have hR':∀ k,(qK r e c row vl a).R k↔k=r:=by intro k; simp [Ro.R,qK,fmv,fsh,keys]
 have hul:=hv.length
 have Nj:=mG ha
 have V0:(row.cs e).length=sz row.τ:=bc _ _
 have mV:(γ.cv r).length=row.xs.length*sz row.τ:=(hR.rs r row fO).top.ze.1
 have VS:(e+1)*sz row.τ<=row.xs.length*sz row.τ:=zP _ he
 rw [Nat.add_mul] at VS
 refine ⟨w',QB γ r e c row vl a v.cells.toList,ni,lU hR rfl tq ?_ ?_ ?_ (Im (tZ ho)) (fun _ _ _=>rfl)⟩
 ·refine mA hR rfl (fun k rk hk _=>⟨?_,rfl⟩) (fun k rk rk' hk _ _ h=> ?_) (fun k _ _ _=>⟨fun rk rk' hk h=> ?_⟩) (fun k cs hk _=>⟨⟨_,by rw [Xb,hk]; rfl⟩,rfl⟩)
  ·rw [Lq]; by_cases h:r=k
   ·exact ⟨_,if_pos h⟩
   ·exact ⟨rk,by rw [if_neg h]; exact hk⟩
  ·rw [Lq] at h
   by_cases rW:r=k
   ·subst rW; rw [if_pos rfl] at h; cases h
    rw [fO] at hk; cases hk
    exact ⟨rfl,by simp⟩
   ·rw [if_neg rW,hk] at h; cases h; exact ⟨rfl,Nat.le_refl _⟩
  ·rw [Lq] at h
   by_cases rW:r=k
   ·subst rW; rw [if_pos rfl] at h; cases h
    rw [fO] at hk; cases hk
    intro e1 c1 τ ys he1 hc
    have cf:c1<sz row.τ:=by have:=(zU.1 hc).1; rw [vq,bc] at this; exact this
    have SH:(QB γ r e c row vl a v.cells.toList).cv r=Soft.cT (γ.cv r) (e*sz row.τ+c) v.cells.toList:=by simp [QB,dZ]
    rw [SH]
    by_cases JG:e1=e
    ·subst JG
     have vL:c1<c\/c+vl.length<=c1:=by
      rcases Nat.lt_or_ge c1 c with h | h
      ·exact .inl h
      ·rcases Nat.lt_or_ge c1 (c+vl.length) with h2 | h2
       ·exfalso
        obtain ⟨j,rfl⟩:∃ j,c1=c+j:=⟨c1-c,by omega⟩
        obtain ⟨ys',MH⟩:=GJ _ y hc
        have h3:=zq
        simp only [Row.cs] at h3
        rw [show (row.xs.set e1 y).getD e1 (cg row.τ)=y by simp [List.getD,he]] at h3
        rw [h3,dI _ _ _ _ (by omega) (by rw [bc]; omega)] at MH
        exact fct j τ ys' MH
       ·exact .inr h2
     rw [zq]
     refine ⟨⟨ys,?_,Nat.le_refl _⟩,?_⟩
     ·rcases vL with h | h
      ·rw [cU _ _ _ _ h (by omega)]; exact hc
      ·rw [cY _ _ _ _ (by omega) (by omega)]; exact hc
     ·rcases vL with h | h
      ·rw [cU _ _ _ _ (by omega) (by rw [mV]; omega)]
      ·rw [cY _ _ _ _ (by omega) (by rw [mV]; omega)]
    ·rw [Ft e1 JG]
     refine ⟨⟨ys,hc,Nat.le_refl _⟩,?_⟩
     rcases Nat.lt_or_gt_of_ne JG with h | h
     ·have h3:(e1+1)*sz row.τ<=e*sz row.τ:=zP _ h
      rw [Nat.add_mul] at h3
      rw [cU _ _ _ _ (by omega) (by rw [mV]; omega)]
     ·have h3:(e+1)*sz row.τ<=e1*sz row.τ:=zP _ h
      rw [Nat.add_mul] at h3
      rw [cY _ _ _ _ (by omega) (by rw [mV]; omega)]
   ·rw [if_neg rW,hk] at h; cases h
    intro e1 c1 τ ys _ hc
    exact ⟨⟨ys,hc,Nat.le_refl _⟩,by simp [QB,dZ,Ne.symm rW]⟩
 ·intro k rk h
  have h:(if r=k then some (some _) else none)=some (some rk):=h
  by_cases hk:r=k
  ·subst hk; rw [if_pos rfl] at h; cases h
   simpa [QB,dZ] using bo
  ·rw [if_neg hk] at h; cases h
 ·intro k rk h _ VP
  have h:(if r=k then some (some _) else none)=none:=h
  rw [(hR' k).1 VP] at h
  simp at h
theorem ox {τ:Ty} (ys:List (El τ)) {k d:Nat} (hk:k<ys.length) (hd:d<sz τ):(ga τ ys)[k*sz τ+d]? =((cells τ (ys.getD k (cg τ)))[d]?).map gx :=
 fA τ ys k d hk hd
theorem Ib {τ:Ty} (ys:List (El τ)) {k d:Nat} {y:El τ} {iD:List Ct} (hk:k<ys.length) (hd:d+iD.length<=sz τ) (hy:cells τ y=Soft.cT (cells τ (ys.getD k (cg τ))) d iD) :
  ga τ (ys.set k y)=Soft.cT (ga τ ys) (k*sz τ+d) (iD.map gx):=by
 have hz:=oE τ
 have hkz:(k+1)*sz τ<=ys.length*sz τ:=zP _ hk
 rw [Nat.add_mul] at hkz
 have Aa:=mz τ ys
 have afh:(ga τ (ys.set k y)).length=ys.length*sz τ:=by rw [mz]; simp
 have Nj:(cells τ (ys.getD k (cg τ))).length=sz τ:=bc _ _
 apply List.ext_getElem?
 intro i
 by_cases hi:i<ys.length*sz τ
 ·have he:i/sz τ<ys.length:=Nat.div_lt_of_lt_mul (by rwa [Nat.mul_comm])
  have hc:i % sz τ<sz τ:=Nat.mod_lt _ hz
  have VU:i/sz τ*sz τ+i % sz τ=i:=by rw [Nat.mul_comm]; exact Nat.div_add_mod i (sz τ)
  revert he hc VU
  generalize i/sz τ=e
  generalize i % sz τ=c
  intro he hc VU
  subst VU
  rw [ox _ (by simpa using he) hc]
  by_cases hek:e=k
  ·subst hek
   rw [show (ys.set e y).getD e (cg τ)=y by simp [List.getD,he],hy]
   by_cases h1:c<d
   ·rw [cU _ _ _ _ h1 (by omega),cU _ _ _ _ (by omega) (by rw [Aa]; omega),ox _ he hc]
   ·by_cases h2:c<d+iD.length
    ·obtain ⟨j,rfl⟩:∃ j,c=d+j:=⟨c-d,by omega⟩
     rw [dI _ _ _ _ (by omega) (by omega),show e*sz τ+(d+j)=e*sz τ+d+j by omega,dI _ _ _ _ (by simp; omega) (by rw [Aa]; simp; omega),List.getElem?_map]
    ·rw [cY _ _ _ _ (by omega) (by omega),cY _ _ _ _ (by simp; omega) (by rw [Aa]; simp; omega),ox _ he hc]
  ·rw [show (ys.set k y).getD e (cg τ)=ys.getD e (cg τ) by simp [List.getD,List.getElem?_set,Ne.symm hek]]
   rcases Nat.lt_or_gt_of_ne hek with h | h
   ·have h3:(e+1)*sz τ<=k*sz τ:=zP _ h
    rw [Nat.add_mul] at h3
    rw [cU _ _ _ _ (by omega) (by rw [Aa]; omega),ox _ he hc]
   ·have h3:(k+1)*sz τ<=e*sz τ:=zP _ h
    rw [Nat.add_mul] at h3
    rw [cY _ _ _ _ (by simp; omega) (by rw [Aa]; simp; omega),ox _ he hc]
 ·rw [List.getElem?_eq_none (by omega),List.getElem?_eq_none]
  rw [g9 _ _ _ (by rw [Aa]; simp; omega)]; omega
theorem Hw (m:Lk):∀ {vl:List Cv} {us:List Value} {iD:List Ct},jy vl=true->b9 M γ vl us->m.iD vl=some iD->us=iD.map gx/\iD.length=vl.length
 | [],us,iD,_,hr,h=>by cases hr; simp only [Lk.iD,zA] at h; subst h; simp
 | x::vl,us,iD,hf,hr,h=>by
  cases hr with
  | cons hx hl =>
   rename_i v us
   have:∃ ct,m.ct x=some ct/\v=gx ct/\jy vl=true:=by
    cases x<;>simp only [jy] at hf<;>first | (cases hf; done) | exact ⟨_,rfl,hx,hf⟩
   obtain ⟨ct,h1,rfl,hf⟩:=this
   simp only [Lk.iD,h1] at h
   cases h2:m.iD vl with
   | none=>simp [h2] at h
   | some c2 =>
    simp only [h2,zA] at h; subst h
    obtain ⟨i1,i2⟩:=Hw m hf hl h2
    simp [i1,i2]
theorem R3 (hR:Rel X S.lk γ w) (cj:∀ g,w.heap.size<=g->γ.O g=none) (hm:Le m S.lk) {r e c k d:Nat} {row:Row} {vl:List Cv} {iD:List Ct} {τ:Ty} {ys:List (El τ)} {y:El τ} {z:El row.τ} {av v:Value} {t:TypeId}
  (hr:m.r r=some row) (ho:row.ow=5) (Aa:jy vl=true) (MO:m.iD vl=some iD) (hc:(row.cs e)[c]? =some (.l τ ys)) (hd:d+vl.length<=sz τ)
  (hy:rO τ (Soft.cT (cells τ (ys.getD k (cg τ))) d iD)=some y) (hz:rO row.τ (Soft.cT (row.cs e) c [.l τ (ys.set k y)])=some z) (xi:CC τ iD=true)
  (hv:b9 S.lk γ vl v.cells.toList) (P3:bp S.lk γ (.pn r e c k d) av) (hs:vl.length=fV X.P t) (hp:0<vl.length) :
  ∃ w',(Instr.storeAt t av v).run X.P w= .ok () w'/\Step X S γ w (WZ r { row with xs:=row.xs.set e z }) γ w':=by
 have fO:=hm.r r row hr
 obtain ⟨row',τ',ys',u,cy,he,lH,hu,hk,g,o,n',cap,hb,rfl⟩:=P3
 rw [fO] at cy; cases cy
 rw [hc] at lH; cases lH
 have bo:=hR.rs r row fO
 obtain ⟨u',oT,Yv,qe⟩:=bo.rA e c _ he hc
 rw [hu] at oT; cases oT
 have Zd:∀ e c,dP r e c row.ow= .own (.n r e c):=by intro e c; rw [ho]; rfl
 have ht5:dN r row.ow= .own (.r r):=by rw [ho]; rfl
 rw [Zd] at qe
 obtain ⟨gN,oN⟩:=qe
 obtain ⟨Sz,T5⟩:=Hw m Aa hv MO
 rcases gN.2 with ⟨h1,_⟩ | ⟨g1,cap1,cur,h1,_,hg,HX,QF,iW,ht⟩
 ·rw [h1] at hb; cases hb
 have MT:g1=g/\0=o:=by
  rw [h1] at hb; injection hb with h _ _; injection h with h; injection h with h2 h3 _; exact ⟨h2,h3⟩
 obtain ⟨rfl,rfl⟩:=MT
 have PO:γ.O g1=some (.n r e c):=oN g1 (by rw [h1]; rfl)
 have M4:=hv.length
 have hkz:(k+1)*sz τ<=ys.length*sz τ:=zP _ hk
 rw [Nat.add_mul] at hkz
 have Wk:ys.length*sz τ<=cur.size:=by rw [iW]; exact zP _ HX
 have ni:=yp (X:=X) (t:=t) (v:=v) (o:=0+(k*sz τ+d)) hg (by simp at M4; omega) (by simp at M4; omega) (by simp at M4; omega) (hv.one hR)
 have Wn:cells τ y=Soft.cT (cells τ (ys.getD k (cg τ))) d iD:=qn hy (fun MS=>by
  have gY:τ= .byte:=by revert MS; cases τ<;>simp [Ty.isByte]
  have h2:sz τ=1:=by rw [gY]; rfl
  have h3:(cells τ (ys.getD k (cg τ))).length=1:=by rw [bc,h2]
  have h5:d=0:=by omega
  subst h5
  have h6:vl.length=1:=by omega
  have:Soft.cT (cells τ (ys.getD k (cg τ))) 0 iD=iD:=by
   simp only [Soft.cT,T5,h6,List.take_zero,List.nil_append,Nat.zero_add]
   rw [List.drop_of_length_le (by omega),List.append_nil]
  rw [this]; exact xi)
 have abO:cells row.τ z=Soft.cT (row.cs e) c [.l τ (ys.set k y)]:=qn hz (fun MS=>by
  exfalso
  have gY:row.τ.deep=false:=by revert MS; cases row.τ<;>simp [Ty.isByte,Ty.deep]
  exact absurd rfl (oF gY _ _ (List.mem_of_getElem? hc) τ ys))
 have V0:(row.cs e).length=sz row.τ:=bc _ _
 have C1:c<(row.cs e).length:=(zU.1 hc).1
 let row':Row:={ row with xs:=row.xs.set e z }
 have zq:row'.cs e=Soft.cT (row.cs e) c [.l τ (ys.set k y)]:=by
  show cells row.τ ((row.xs.set e z).getD e (cg row.τ))=_
  rw [show (row.xs.set e z).getD e (cg row.τ)=z by simp [List.getD,he]]
  exact abO
 have Ft:∀ e':Nat,e'≠e->row'.cs e'=row.cs e':=by
  intro e' cL
  show cells row.τ ((row.xs.set e z).getD e' (cg row.τ))=cells row.τ (row.xs.getD e' (cg row.τ))
  rw [show (row.xs.set e z).getD e' (cg row.τ)=row.xs.getD e' (cg row.τ) by simp [List.getD,List.getElem?_set,Ne.symm cL]]
 have adf:∀ e' c' ct,(row'.cs e')[c']? =some ct->(e'=e/\c'=c/\ct= .l τ (ys.set k y))\/(¬ (e'=e/\c'=c)/\(row.cs e')[c']? =some ct):=by
  intro e' c' ct h
  by_cases JG:e'=e
  ·subst JG
   rw [zq] at h
   rcases Nat.lt_trichotomy c' c with h1 | h1 | h1
   ·rw [cU _ _ _ _ h1 (by omega)] at h; exact .inr ⟨by omega,h⟩
   ·subst h1
    have:=dI (row.cs e') [Ct.l τ (ys.set k y)] c' 0 (by simp) (by simp; omega)
    rw [Nat.add_zero] at this
    rw [this] at h; simp at h; exact .inl ⟨rfl,rfl,h.symm⟩
   ·rw [cY _ _ _ _ (by simp; omega) (by simp; omega)] at h; exact .inr ⟨by omega,h⟩
  ·rw [Ft e' JG] at h; exact .inr ⟨fun h=>JG h.1,h⟩
 have iU:∀ g,g≠g1->(w.setRow g1 (Soft.cT cur.toList (0+(k*sz τ+d)) v.cells.toList).toArray).heap[g]? =w.heap[g]? :=fun g h=>l8 w _ _ g h
 refine ⟨_,ni,?_⟩
 have tq:JU (·=r) γ w γ (w.setRow g1 (Soft.cT cur.toList (0+(k*sz τ+d)) v.cells.toList).toArray) :=
  ⟨rfl,rfl,rfl,by simp,fun g rY cL=>⟨iU g (fun h=>by have:=(cL r rfl).2 e c; rw [h,PO] at this; exact this rfl),rfl⟩,fun g rY=>cj g (by simpa using rY),rfl,fun _ _=>⟨rfl,rfl⟩⟩
 have SF:cS X γ.O (w.setRow g1 (Soft.cT cur.toList (0+(k*sz τ+d)) v.cells.toList).toArray) r row' (γ.rv r) (γ.cv r):=by
  have Cw:=bo.top
  refine ⟨?_,fun e' c' ct T3 dg=> ?_⟩
  ·show Sl X γ.O _ (dN r row.ow) row.τ _ (row.xs.set e z).length _
   rw [List.length_set]
   refine Cw.re (fun g o rY hi=> ?_) id
   rw [ht5] at hi
   have hi:γ.O g=some (.r r):=hi
   exact ⟨(iU g (fun h=>by rw [h,PO] at hi; cases hi)).trans rY,by rw [ht5]; exact hi⟩
  ·have SA:e'<row.xs.length:=by simpa [row'] using T3
   show ∃ u,(γ.cv r)[e'*sz row.τ+c']? =some u/\fW X γ.O _ (dP r e' c' row.ow) ct u
   rcases adf e' c' ct dg with ⟨rfl,rfl,rfl⟩ | ⟨cL,PV⟩
   ·refine ⟨u,hu,Yv,?_⟩
    rw [Zd]
    refine ⟨⟨by rw [mz],.inr ⟨g1,cap1,_,by rw [h1]; simp,Nat.zero_le _,sA w _ _ _ _ _ hg,by simpa using HX,QF,?_,?_⟩⟩,oN⟩
    ·rw [List.size_toArray,g9 _ _ _ (by simp only [Array.length_toList] at M4 ⊢; omega),Array.length_toList,iW]
    ·rw [List.length_set,List.toList_toArray,tJ _ _ _ _ (by omega) (by simpa using Wk),ht,Ib ys hk (by omega) Wn,Nat.zero_add,Sz]
   ·obtain ⟨u2,hu2,eD⟩:=bo.rA e' c' ct SA PV
    refine ⟨u2,hu2,eD.re (fun g o rY hi=> ?_) id⟩
    rw [Zd] at hi
    have hi:γ.O g=some (.n r e' c'):=hi
    exact ⟨(iU g (fun h=>by rw [h,PO] at hi; simp at hi; exact cL ⟨hi.1.symm,hi.2.symm⟩)).trans rY,by rw [Zd]; exact hi⟩
 refine lU hR rfl tq ?_ ?_ ?_ (Im (by show row.ow≠1; rw [ho]; decide)) (fun _ _ _=>rfl)
 ·refine mA hR rfl (fun j rk hj _=>⟨?_,rfl⟩) (fun j rk rk' hj _ _ h=> ?_) (fun j _ _ _=>⟨fun rk rk' hj h=> ?_⟩) (fun j cs hj _=>⟨⟨_,by rw [Xb,hj]; rfl⟩,rfl⟩)
  ·rw [Lq]; by_cases h:r=j
   ·exact ⟨_,if_pos h⟩
   ·exact ⟨rk,by rw [if_neg h]; exact hj⟩
  ·rw [Lq] at h
   by_cases rW:r=j
   ·subst rW; rw [if_pos rfl] at h; cases h
    rw [fO] at hj; cases hj
    exact ⟨rfl,by simp⟩
   ·rw [if_neg rW,hj] at h; cases h; exact ⟨rfl,Nat.le_refl _⟩
  ·rw [Lq] at h
   by_cases rW:r=j
   ·subst rW; rw [if_pos rfl] at h; cases h
    rw [fO] at hj; cases hj
    intro e1 c1 σ zs he1 cf
    refine ⟨?_,rfl⟩
    by_cases JC:e1=e/\c1=c
    ·obtain ⟨rfl,rfl⟩:=JC
     rw [hc] at cf; cases cf
     refine ⟨ys.set k y,?_,by simp⟩
     show (row'.cs e1)[c1]? =_
     rw [zq]
     have:=dI (row.cs e1) [Ct.l τ (ys.set k y)] c1 0 (by simp) (by simp; omega)
     rw [Nat.add_zero] at this
     rw [this]; rfl
    ·refine ⟨zs,?_,Nat.le_refl _⟩
     show (row'.cs e1)[c1]? =_
     by_cases JG:e1=e
     ·subst JG
      rw [zq]
      rcases Nat.lt_trichotomy c1 c with h1 | h1 | h1
      ·rw [cU _ _ _ _ h1 (by omega)]; exact cf
      ·exact absurd ⟨rfl,h1⟩ JC
      ·rw [cY _ _ _ _ (by simp; omega) (by simp; omega)]; exact cf
     ·rw [Ft e1 JG]; exact cf
   ·rw [if_neg rW,hj] at h; cases h
    intro e1 c1 σ zs _ cf
    exact ⟨⟨zs,cf,Nat.le_refl _⟩,rfl⟩
 ·intro j rk h
  have h:(if r=j then some (some row') else none)=some (some rk):=h
  by_cases hj:r=j
  ·subst hj; rw [if_pos rfl] at h; cases h; exact SF
  ·rw [if_neg hj] at h; cases h
 ·intro j rk h _ hj
  have h:(if r=j then some (some row') else none)=none:=h
  rw [if_pos hj.symm] at h; cases h
def o6 {τ:Ty} (xs:List (El τ)) (off len:Nat):List (El τ):=xs.take off++(List.replicate len (cg τ)++xs.drop (off+len))
theorem vI {τ:Ty} (xs:List (El τ)) {off len:Nat} (h:off+len<=xs.length):(o6 xs off len).length=xs.length:=by simp [o6]; omega
theorem NP {τ:Ty} (xs:List (El τ)) {off len:Nat} (h:off+len<=xs.length) (e:Nat) :
  (o6 xs off len).getD e (cg τ)=if off<=e/\e<off+len then cg τ else xs.getD e (cg τ):=by
 simp only [o6,List.getD,List.getElem?_append,List.length_take,List.length_replicate,List.getElem?_take,List.getElem?_replicate,List.getElem?_drop]
 have h1:min off xs.length=off:=by omega
 rw [h1]
 by_cases h2:e<off
 ·simp [h2,show ¬ (off<=e/\e<off+len) by omega]
 ·by_cases h3:e<off+len
  ·simp [h2,show e-off<len by omega,show off<=e/\e<off+len by omega]
  ·simp [h2,show ¬ e-off<len by omega,show ¬ (off<=e/\e<off+len) by omega,show off+len+(e-off-len)=e by omega]
theorem xd (z:Array Value) (n:Nat):Builtin.zeroCells z n=madeCells z (n*z.size):=rfl
def S9 (r:Nat) (row':Row):Dl:={ Dl.z with kn:=[r],rs:=[(r,some row')] }
theorem UU (S:St) (r:Nat) (row':Row) (k:Nat):(S.app (S9 r row')).lk.r k=if r=k then some row' else S.lk.r k:=by
 rw [kO]
 show (match (if r=k then some (some row') else none) with | some r=>r | none=>_)=_
 by_cases h:r=k<;>simp [h]
theorem ZQ (S:St) (r:Nat) (row':Row) (k:Nat):(S.app (S9 r row')).lk.v k=(S.lk.v k).map (List.map (S9 r row').map):=by rw [nZ]; rfl
theorem wU (hR:Rel X S.lk γ w) {r:Nat} {row row':Row} (hr:S.lk.r r=some row) (hτ:row'.τ=row.τ) (hl:row.xs.length<=row'.xs.length) (uU:row'.ow≠1) {cv':List Value} {O':OM}
  (tq:JU (·=r) γ w { γ with O:=O',cv:=dZ γ.cv r cv' } w') (bo:cS X O' w' r row' (γ.rv r) cv'):Step X S γ w (S9 r row') { γ with O:=O',cv:=dZ γ.cv r cv' } w':=by
 refine lU hR rfl tq ?_ ?_ ?_ (Im uU) (fun _ _ _=>rfl)
 ·refine mA hR rfl (fun j rk hj _=>⟨?_,rfl⟩) (fun j rk rk' hj _ _ h=> ?_) (fun j _ _ KM=>⟨fun rk rk' hj h=> ?_⟩) (fun j cs hj _=>⟨⟨_,by rw [ZQ,hj]; rfl⟩,rfl⟩)
  ·rw [UU]; by_cases h:r=j
   ·exact ⟨_,if_pos h⟩
   ·exact ⟨rk,by rw [if_neg h]; exact hj⟩
  ·rw [UU] at h
   by_cases rW:r=j
   ·subst rW; rw [if_pos rfl] at h; cases h
    rw [hr] at hj; cases hj
    exact ⟨hτ,hl⟩
   ·rw [if_neg rW,hj] at h; cases h; exact ⟨rfl,Nat.le_refl _⟩
  ·have rW:¬ r=j:=Ne.symm (J4.1 KM)
   rw [UU,if_neg rW,hj] at h; cases h
   intro e1 c1 σ zs _ cf
   exact ⟨⟨zs,cf,Nat.le_refl _⟩,by simp [dZ,Ne.symm rW]⟩
 ·intro j rk h
  have h:(if r=j then some (some row') else none)=some (some rk):=h
  by_cases hj:r=j
  ·subst hj; rw [if_pos rfl] at h; cases h; simpa [dZ] using bo
  ·rw [if_neg hj] at h; cases h
 ·intro j rk h _ hj
  have h:(if r=j then some (some row') else none)=none:=h
  rw [if_pos hj.symm] at h; cases h
theorem Lv {P:Program} {t e:TypeId} {i:TypeInfo} {z:Value} (hu:P.underlying t=some (.slice e)) (hi:P.info? e=some i) (hz:i.zero=some z) {g o n cap:Nat} {cur:Array Value} {e':TypeId}
  (hg:w.heap[g]? =some (.cells cur e' (0,0))) (hle:o+n*z.cells.size<=cur.size) (h1:∀ u∈(madeCells z.cells (n*z.cells.size)).toList,u.oneCell'=true) (hn:0<n) (ty:TypeId) :
  (Builtin.clear_ #[t] ty #[.slice (some ⟨g,o,none⟩) n cap]).run P w= .ok (.tuple #[]) (w.setRow g (Soft.cT cur.toList o (madeCells z.cells (n*z.cells.size)).toList).toArray):=by
 have pO:=run_storeCells_at (P:=P) g o e' (madeCells z.cells (n*z.cells.size)).toList 0 cur w hg (by simp [size_madeCells]; omega) h1
 rw [Nat.add_zero] at pO
 cases n with
 | zero=>omega
 | succ n =>
  simp only [Builtin.clear_,Sem.run_bind,run_underlying hu,Result.andThen_ok,zeroValue,Gz hi,hz,Sem.run_pure,xd,pO]
  simp [Soft.cT,run_underlying hu,zeroValue,Gz hi,hz,xd,pO]
theorem N6 {τ:Ty}:∀ u∈(cells τ (cg τ)).map gx,u.oneCell'=true:=by
 intro u hu
 obtain ⟨ct,_,rfl⟩:=List.mem_map.1 hu
 cases ct<;>rfl
theorem Jn (hX:iy X) (hR:Rel X S.lk γ w) (cj:∀ g,w.heap.size<=g->γ.O g=none) (hm:Le m S.lk) {t:TypeId} {r off len:Nat} {xv:Value} {v:AV} {δ:Dl} (hx:bp S.lk γ (.sl r off len) xv)
  (h:X.sD m t (.c (.sl r off len))= .w0 v δ) (ty:TypeId) :
  v=u8/\∃ w' γ',(Builtin.clear_ #[t] ty #[xv]).run X.P w= .ok (.tuple #[]) w'/\Step X S γ w δ γ' w':=by
 simp only [Ctx.sD] at h
 cases ht:X.lE t with
 | none=>simp [ht] at h
 | some τ =>
  cases hr:m.r r with
  | none=>simp [ht,hr] at h
  | some row =>
   simp only [ht,hr] at h
   have fO:=hm.r r row hr
   cases h1:eu row.ow&&LU row.τ τ with
   | false=>simp [h1] at h
   | true =>
    cases h2:row.τ.deep&&Nat.beq row.ow 5 with
    | true=>simp [h1,h2] at h
    | false =>
     simp only [h1,h2,Out.w0.injEq] at h
     obtain ⟨rfl,rfl⟩:=h
     simp only [zB] at h1
     obtain ⟨ho,hτ⟩:=h1
     have hτ:=Al hτ
     subst hτ
     refine ⟨rfl,?_⟩
     obtain ⟨hu,z9⟩:=nL ht
     obtain ⟨i,z,hi,hz,hs,hb,hc,Jq⟩:=sJ hX ht
     obtain ⟨row',cy,hle,rU⟩:=hx
     rw [fO] at cy; cases cy
     have bo:=hR.rs r row fO
     have Ci:dN r row.ow= .own (.r r):=by simp [dN,ho]
     have Aa:row.ow=5->row.τ.deep=false:=by
      intro h5; rw [h5] at h2; cases hd:row.τ.deep with
      | false=>rfl
      | true=>rw [hd] at h2; cases h2
     show ∃ w' γ',_/\Step X S γ w (S9 r { row with xs:=o6 row.xs off len }) γ' w'
     have same:∀ (cv':List Value) (O':OM) (w':World),JU (·=r) γ w { γ with O:=O',cv:=dZ γ.cv r cv' } w'->cS X O' w' r { row with xs:=o6 row.xs off len } (γ.rv r) cv' ->
       Step X S γ w (S9 r { row with xs:=o6 row.xs off len }) { γ with O:=O',cv:=dZ γ.cv r cv' } w':=fun cv' O' w' tq rn =>
      wU (row':={ row with xs:=o6 row.xs off len }) hR fO rfl (by show row.xs.length<=(o6 row.xs off len).length; rw [vI _ hle]; exact Nat.le_refl _) (tZ ho) tq rn
     by_cases hlen:len=0
     ·subst hlen
      have acw:o6 row.xs off 0=row.xs:=by simp [o6]
      refine ⟨w,_,?_,same (γ.cv r) γ.O w ⟨rfl,rfl,rfl,Nat.le_refl _,fun _ _ _=>⟨rfl,rfl⟩,cj,rfl,fun j hj=>by simp [dZ,hj]⟩ (by rw [acw]; exact bo)⟩
      rcases rU with ⟨_,rfl,_⟩ | ⟨g,o,n',cap,o',cap',_,rfl,_⟩
      ·simp [Builtin.clear_,run_underlying hu]
      ·simp [Builtin.clear_,run_underlying hu]
     ·rcases rU with ⟨_,_,h0⟩ | ⟨g,o,n',cap,o',cap',JE,rfl,_,_,_,h0⟩
      ·exact absurd h0 hlen
      have MW:o'=o+off*sz row.τ:=h0.resolve_left hlen
      have Cw:=bo.top
      rw [Ci] at Cw
      obtain ⟨gN,oN⟩:=Cw
      rcases gN.2 with ⟨h3,_⟩ | ⟨g1,cap1,cur,h3,_,hg,HX,QF,iW,SJ⟩
      ·rw [h3] at JE; cases JE
      have MT:g1=g/\0=o:=by
       rw [h3] at JE; injection JE with h _ _; injection h with h; injection h with h2 h3 _; exact ⟨h2,h3⟩
      obtain ⟨rfl,rfl⟩:=MT
      subst MW
      have Wk:row.xs.length*sz row.τ<=cur.size:=by rw [iW]; exact zP _ HX
      have hlz:(off+len)*sz row.τ<=row.xs.length*sz row.τ:=zP _ hle
      rw [Nat.add_mul] at hlz
      have TU:∀ e c,e<len->c<sz row.τ->(madeCells z.cells (len*z.cells.size)).toList[e*sz row.τ+c]? =((cells row.τ (cg row.τ))[c]?).map gx:=by
       intro e c he lH
       rw [Jq,GV Jq (oE _) he lH,hc,List.getElem?_map]
      have gY:∀ u∈(madeCells z.cells (len*z.cells.size)).toList,u.oneCell'=true:=by
       intro u oT
       obtain ⟨j,hj⟩:=List.mem_iff_getElem?.1 oT
       have No:j<len*sz row.τ:=by
        have:=(zU.1 hj).1; simpa [size_madeCells,Jq] using this
       have hq:j/sz row.τ<len:=Nat.div_lt_of_lt_mul (by rwa [Nat.mul_comm])
       have MP:j % sz row.τ<sz row.τ:=Nat.mod_lt _ (oE _)
       have he:j/sz row.τ*sz row.τ+j % sz row.τ=j:=by rw [Nat.mul_comm]; exact Nat.div_add_mod j _
       have:=TU _ _ hq MP
       rw [he,hj] at this
       cases dg:(cells row.τ (cg row.τ))[j % sz row.τ]? with
       | none=>rw [dg] at this; cases this
       | some ct =>
        rw [dg] at this; simp only [Option.map_some,zA] at this
        rw [this]; exact N6 _ (List.mem_map_of_mem (List.mem_of_getElem? dg))
      have ni:=Lv (w:=w) (cap:=cap') hu hi hz (g:=g1) (o:=0+off*sz row.τ) (n:=len) hg (by rw [Jq]; omega) gY (by omega) ty
      have Nf:(madeCells z.cells (len*z.cells.size)).toList.length=len*sz row.τ:=by simp [size_madeCells,Jq]
      have PO:γ.O g1=some (.r r):=oN g1 (by rw [h3]; rfl)
      refine ⟨_,_,ni,same (Soft.cT (γ.cv r) (off*sz row.τ) (madeCells z.cells (len*z.cells.size)).toList) γ.O _ ?_ ?_⟩
      ·exact ⟨rfl,rfl,rfl,by simp,fun g rY cL=>⟨l8 w _ _ g (fun h=>by have:=(cL r rfl).1; rw [h,PO] at this; exact this rfl),rfl⟩,
        fun g rY=>cj g (by simpa using rY),rfl,fun j hj=>by simp [dZ,hj]⟩
      ·have mV:(γ.cv r).length=row.xs.length*sz row.τ:=gN.1
       refine ⟨?_,fun e c ct he dg=> ?_⟩
       ·show Sl X γ.O _ (dN r row.ow) row.τ _ (o6 row.xs off len).length _
        rw [vI _ hle,Ci]
        refine ⟨⟨by rw [g9 _ _ _ (by rw [mV,Nf]; omega),mV],.inr ⟨g1,cap1,_,h3,Nat.zero_le _,sA w _ _ _ _ _ hg,HX,QF,?_,?_⟩⟩,oN⟩
        ·rw [List.size_toArray,g9 _ _ _ (by rw [Nf,Array.length_toList]; omega),Array.length_toList,iW]
        ·rw [List.toList_toArray,tJ _ _ _ _ (by rw [Nf]; omega) (by simpa using Wk),SJ,Nat.zero_add]
       ·have SA:e<row.xs.length:=by
         have:e<(o6 row.xs off len).length:=he
         rwa [vI _ hle] at this
        have tt:(cells row.τ ((o6 row.xs off len).getD e (cg row.τ)))[c]? =some ct:=dg
        have lH:c<sz row.τ:=by have:=(zU.1 tt).1; rwa [bc] at this
        rw [NP _ hle] at tt
        show ∃ u,(Soft.cT (γ.cv r) (off*sz row.τ) _)[e*sz row.τ+c]? =some u/\fW X γ.O _ (dP r e c row.ow) ct u
        have VS:(e+1)*sz row.τ<=row.xs.length*sz row.τ:=zP _ SA
        rw [Nat.add_mul] at VS
        by_cases zb:off<=e/\e<off+len
        ·rw [if_pos zb] at tt
         obtain ⟨j,rfl⟩:∃ j,e=off+j:=⟨e-off,by omega⟩
         have hj:j<len:=by omega
         have hjz:(j+1)*sz row.τ<=len*sz row.τ:=zP _ hj
         rw [Nat.add_mul] at hjz
         refine ⟨gx ct,?_,DB _ tt _ _ _ _⟩
         rw [show (off+j)*sz row.τ+c=off*sz row.τ+(j*sz row.τ+c) by rw [Nat.add_mul]; omega,dI _ _ _ _ (by rw [Nf]; omega) (by rw [Nf,mV]; omega),TU j c hj lH,tt]
         rfl
        ·rw [if_neg zb] at tt
         obtain ⟨u,oT,eD⟩:=bo.rA e c ct SA tt
         refine ⟨u,?_,eD.re (fun g o rY rT=>⟨(l8 w _ _ g (fun h=>vm rT (h▸PO))).trans rY,rT⟩) id⟩
         rcases Nat.lt_or_ge e off with h | h
         ·have h4:(e+1)*sz row.τ<=off*sz row.τ:=zP _ h
          rw [Nat.add_mul] at h4
          rw [cU _ _ _ _ (by omega) (by rw [mV]; omega)]; exact oT
         ·have h4:(off+len)*sz row.τ<=e*sz row.τ:=zP _ (by omega)
          rw [Nat.add_mul] at h4
          rw [cY _ _ _ _ (by rw [Nf]; omega) (by rw [Nf,mV]; omega)]; exact oT
theorem RF {α:Type} (a b c:List α) (h:b.length<=c.length):Soft.cT (a++c) a.length b=a++(b++c.drop b.length):=by
 simp only [Soft.cT,List.take_left,List.append_assoc,List.drop_append]
 congr 2
 simp [List.drop_of_length_le]
theorem NZ {z:Nat}:∀ (parts:List (Nat×Value)) (k:Nat) (cells:Array Value) (pre rest:List Value),(∀ j p,parts[j]? =some p->p.1=k+j/\p.2.cells.size=z)->cells.toList=pre++rest->pre.length=k*z ->
  rest.length=parts.length*z->∃ arr,Instr.fill (fun i=>some (i*z,z)) cells parts=some arr/\arr.toList=pre++(parts.flatMap fun p=>p.2.cells.toList):=by
 intro parts
 induction parts with
 | nil=>intro k cells pre rest _ hc _ hr; exact ⟨cells,rfl,by rw [hc]; simp at hr; simp [hr]⟩
 | cons p parts ih =>
  intro k cells pre rest hp hc xl eB
  obtain ⟨i,v⟩:=p
  obtain ⟨h1,h2⟩:=hp 0 (i,v) rfl
  simp only [Nat.add_zero] at h1
  subst h1
  simp only [zR,Nat.add_mul] at eB
  have mn:cells.size=pre.length+rest.length:=by rw [← Array.length_toList,hc,zK]
  simp only [Instr.fill]
  rw [if_neg (by simp [h2]; omega)]
  have hf:=F5 (i*z) v.cells.toList 0 cells (by simp [h2]; omega)
  rw [Nat.add_zero,hc] at hf
  have e:(Array.foldl (fun cs (x:Value×Nat)=>cs.setIfInBounds (i*z+x.2) x.1) cells v.cells.zipIdx).toList=(pre++v.cells.toList)++rest.drop z:=by
   rw [← Array.foldl_toList,Array.toList_zipIdx]
   rw [hf,← xl,RF _ _ _ (by simp [h2]; omega)]
   simp [h2]
  obtain ⟨arr,ha,hl⟩:=ih (i+1) _ (pre++v.cells.toList) (rest.drop z) (fun j p hj=>by
   obtain ⟨h3,h4⟩:=hp (j+1) p (by simpa using hj)
   exact ⟨by omega,h4⟩) e (by simp [xl,h2,Nat.add_mul]) (by simp; omega)
  exact ⟨arr,ha,by rw [hl]; simp⟩
theorem Sj {P:Program} {t e:TypeId} {i:TypeInfo} {zv:Value} {z n:Nat} {parts:Array (Nat×Value)} (hu:P.underlying t=some (.slice e)) (hi:P.info? e=some i) (hz:i.zero=some zv) (hs:i.size=z) (hzp:0<z)
  (abJ:n*z<=2 ^ 24) (hn:parts.size=n) (hp:∀ (j:Nat) (p:Nat×Value),parts.toList[j]? =some p->p.1=j/\p.2.cells.size=z) :
  (Instr.buildSlice t n parts).run P w= .ok (.slice (some ⟨w.heap.size,0,none⟩) n n) (w.alloc (.cells (parts.toList.flatMap fun p=>p.2.cells.toList).toArray e)):=by
 subst hs
 by_cases h0:n=0
 ·subst h0
  have:parts= #[]:=Array.eq_empty_of_size_eq_zero hn
  subst this
  simp [Instr.buildSlice,run_underlying hu,ou hi,Instr.fill,newRow]
  rw [show Array.map (fun _=>(default:Value)) (Array.range 0)= #[] by simp [Array.range]]
 ·have JC:¬ n*i.size=0:=by
   intro h; rcases Nat.mul_eq_zero.1 h with h | h<;>omega
  obtain ⟨arr,ha,hl⟩:=NZ (z:=i.size) parts.toList 0 ((Array.range (n*i.size)).map (zv.cells[· % zv.cells.size]!)) [] _ (fun j p hj=>by simpa using hp j p hj) (by simp; rfl) (by simp) (by simp [hn])
  have aco:arr=(parts.toList.flatMap fun p=>p.2.cells.toList).toArray:=by apply Array.toList_inj.1; rw [hl]; simp
  rw [run_buildSlice w t e n parts arr i zv hu hi hz (by omega) JC ha,aco]
inductive FX (M:Lk) (γ:Gh):List (List Cv)->List (List Value)->Prop
 | nil:FX M γ [] []
 | cons {x:List Cv} {v:List Value} {l:List (List Cv)} {u:List (List Value)}:b9 M γ x v->FX M γ l u->FX M γ (x::l) (v::u)
theorem La (hm:Le m M) (hR:Rel X M γ w) {key dL:Nat} (tp:dL=2\/dL=4\/dL=5) {O':OM} {w':World} {τ:Ty} :
  ∀ (l:List (List Cv)) (vss:List (List Value)) (e0:Nat) (b:Xn τ),FX M γ l vss->m.jZ τ e0 l=some b->dL<=b.lv->(τ.isByte=true->b.ok=true)->Iz M γ w O' w' l.flatten b.mv b.sh key dL ->
   b.ys.length=l.length/\(∀ (j:Nat) (vs:List Value),vss[j]? =some vs->vs.length=sz τ)/\vss.length=l.length /\
   ∀ (j c:Nat) (ct:Ct),j<l.length->(cells τ (b.ys.getD j (cg τ)))[c]? =some ct->∃ u,vss.flatten[j*sz τ+c]? =some u/\fW X O' w' (dP key (e0+j) c dL) ct u:=by
 intro l
 induction l with
 | nil =>
  intro vss e0 b hr hb _ _ _
  simp only [Lk.jZ,zA] at hb; subst hb
  cases hr
  simp
 | cons x l ih =>
  intro vss e0 b hr hb hle xi hO
  cases hr with
  | cons hx hl =>
   rename_i v u
   simp only [Lk.jZ] at hb
   cases ha:m.bS e0 0 x with
   | none=>simp [ha] at hb
   | some a =>
    cases eB:m.jZ τ (e0+1) l with
    | none=>simp [ha,eB] at hb
    | some b2 =>
     cases hy:rO τ a.iD with
     | none=>simp [ha,eB,hy] at hb
     | some y =>
      simp only [ha,eB,hy,zA] at hb; subst hb
      simp only at hle xi hO ⊢
      obtain ⟨i1,i2,i3,i4⟩:=ih u (e0+1) b2 hl eB (by omega) (fun h=>by have:=xi h; simp only [zB] at this; exact this.2)
       (hO.mono (fun x hx=>by simp [hx]) (fun p hp=>by simp [hp]) (fun p hp=>by simp [hp]))
      have Wn:=qn hy (fun h=>by have:=xi h; simp only [zB] at this; exact this.1)
      obtain ⟨h1,h2⟩:=Aj hm hR tp x v 0 a hx ha (by omega) (hO.mono (fun x hx=>by simp [hx]) (fun p hp=>by simp [hp]) (fun p hp=>by simp [hp]))
      have M4:v.length=sz τ:=by rw [← hx.length,← h1,← Wn,bc]
      refine ⟨by simp [i1],fun j vs hj=> ?_,by simp [i3],fun j c ct hj dg=> ?_⟩
      ·cases j with
       | zero=>simp at hj; subst hj; exact M4
       | succ j=>exact i2 j vs (by simpa using hj)
      ·cases j with
       | zero =>
        simp only [List.getD_cons_zero,Wn] at dg
        obtain ⟨uu,hu,eD⟩:=h2 c ct dg
        have hc:c<v.length:=(zU.1 hu).1
        exact ⟨uu,by simp only [List.flatten_cons,Nat.zero_mul,Nat.zero_add]; rw [List.getElem?_append_left hc]; exact hu,by simpa using eD⟩
       | succ j =>
        simp only [List.getD_cons_succ] at dg
        obtain ⟨uu,hu,eD⟩:=i4 j c ct (by simpa using hj) dg
        refine ⟨uu,?_,by rw [show e0+(j+1)=e0+1+j by omega]; exact eD⟩
        rw [List.flatten_cons,List.getElem?_append_right (by rw [M4,Nat.add_mul]; omega),M4,← hu]
        congr 1; rw [Nat.add_mul]; omega
theorem C6 {τ:Ty}:∀ {l:List (List Cv)} {e:Nat} {b:Xn τ},m.jZ τ e l=some b->b.lv=2\/b.lv=4\/b.lv=5
 | [],e,b,h=>by simp only [Lk.jZ,zA] at h; subst h; simp
 | x::l,e,b,h=>by
  simp only [Lk.jZ] at h
  cases ha:m.bS e 0 x with
  | none=>simp [ha] at h
  | some a =>
   cases hr:m.jZ τ (e+1) l with
   | none=>simp [ha,hr] at h
   | some b2 =>
    cases hy:rO τ a.iD with
    | none=>simp [ha,hr,hy] at h
    | some y =>
     simp only [ha,hr,hy,zA] at h; subst h
     have:=qW ha
     have:=C6 hr
     simp only; omega
theorem DO {τ:Ty}:∀ {l:List (List Cv)} {e:Nat} {b:Xn τ} {r k:Nat},m.jZ τ e l=some b->(r,k)∈b.sh->∃ row,m.r r=some row/\((k=3/\nO 4 row.ow=true)\/(k=4/\row.ow=5))
 | [],e,b,r,k,h,hs=>by simp only [Lk.jZ,zA] at h; subst h; simp at hs
 | x::l,e,b,r,k,h,hs=>by
  simp only [Lk.jZ] at h
  cases ha:m.bS e 0 x with
  | none=>simp [ha] at h
  | some a =>
   cases hr:m.jZ τ (e+1) l with
   | none=>simp [ha,hr] at h
   | some b2 =>
    cases hy:rO τ a.iD with
    | none=>simp [ha,hr,hy] at h
    | some y =>
     simp only [ha,hr,hy,zA] at h; subst h
     simp only [zH] at hs
     rcases hs with hs | hs
     ·exact mh ha hs
     ·exact DO hr hs
end Go.Soft
