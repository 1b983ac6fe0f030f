import Derived.Laws.AppendOwn
import Derived.KernelRfl
import Derived.Laws.Slices
import Derived.Laws.BytesString
import Derived.Laws.StructEq
import Derived.Great.BuildSlice
import Derived.Laws.OwnMore
set_option linter.constructorNameAsVariable false
set_option linter.unusedVariables false
set_option linter.unusedSimpArgs false
namespace Go.Soft
theorem zA {α:Type _} (a b:α):(some a=some b)=(a=b):=Option.some.injEq a b
theorem zB (a b:Bool):((a&&b)=true)=(a=true/\b=true):=Bool.and_eq_true a b
theorem zC (n:Nat):(n:Int).toNat=n:=Int.toNat_natCast n
theorem zD {p:Prop} [Decidable p]:(decide p=true)=p:=decide_eq_true_eq
theorem zE {α:Sort _} {a b:α}:cond true a b=a:=rfl
theorem zF {α:Sort _} {a b:α}:cond false a b=b:=rfl
theorem zG {α β:Type _} (a:α) (b:β) (c:α) (d:β):((a,b)=(c,d))=(a=c/\b=d):=Prod.mk.injEq a b c d
theorem zH {α:Type _} {a:α} {s t:List α}:a∈s++t↔a∈s\/a∈t:=List.mem_append
theorem zI {α:Type _} {a b:α} {l:List α}:a∈b::l↔a=b\/a∈l:=List.mem_cons
theorem zJ {α:Type _} (y:α) {a:α} {l:List α}:a∈l->a∈y::l:=List.mem_cons_of_mem y
theorem zK {α:Type _} {a b:List α}:(a++b).length=a.length+b.length:=List.length_append
theorem zL {α:Type _} {a:α}:[a].length=1:=rfl
theorem zM:(!true)=false:=rfl
theorem zN:(!false)=true:=rfl
theorem zO {α:Type _} {a:α} {l:List α}:a∈a::l:=List.mem_cons_self
theorem zP {m n:Nat} (k:Nat) (h:m<=n):m*k<=n*k:=Nat.mul_le_mul_right k h
theorem zQ {n m:Nat} (h:Nat.ble n m=true):n<=m:=Nat.le_of_ble_eq_true h
theorem zR {α:Type _} {a:α} {l:List α}:(a::l).length=l.length+1:=rfl
theorem zS {α:Type _} {a b:α}:a∈[b]↔a=b:=List.mem_singleton
theorem zT {α:Type _} {l:List α} {i:Nat} {a:α}:l.getD i a=l[i]?.getD a:=List.getD_eq_getElem?_getD
theorem zU {α:Type _} {a:α} {l:List α} {i:Nat}:l[i]? =some a↔∃ h:i<l.length,l[i]=a:=List.getElem?_eq_some_iff
theorem zV (h:Decidable True):@decide True h=true:=decide_true h
structure Slot where
 Name:ByteArray
 Ino:Int
structure aX where
 Kind:Int
 Links:Int
 ax:List Int
structure Block where
 cp:Bool
 an:List Slot
 Text:ByteArray
structure bE where
 Id:Int
 Kind:Int
 Ino:Int
 Ptr:Int
 Block:Int
 Slot:Int
 Name:ByteArray
 aq:Bool
 et:Bool
 bz:Int
 ab:List Int
structure Node where
 Path:ByteArray
 cp:Bool
 Head:ByteArray
 Nt:ByteArray
structure Event where
 Kind:Int
 Path:ByteArray
 To:ByteArray
 At:Int
 Text:ByteArray
inductive Ty | int | bool | byte | str | slot | inode | block | dep | node | event
abbrev El:Ty->Type
 | .int=>Int | .bool=>Bool | .byte=>UInt8 | .str=>ByteArray | .slot=>Slot | .inode=>aX
 | .block=>Block | .dep=>bE | .node=>Node | .event=>Event
inductive Ct
 | u | b (x:Bool) | i (k:IntKind) (n:Int) | s (x:ByteArray) | l (τ:Ty) (xs:List (El τ))
def ch:(τ:Ty)->El τ
 | .int=>0 | .bool=>false | .byte=>0 | .str=> .empty | .slot=>⟨.empty,0⟩ | .inode=>⟨0,0,[]⟩ | .block=>⟨false,[],.empty⟩
 | .dep=>⟨0,0,0,0,0,0,.empty,false,false,0,[]⟩ | .node=>⟨.empty,false,.empty,.empty⟩ | .event=>⟨0,.empty,.empty,0,.empty⟩
def cells:(τ:Ty)->El τ->List Ct
 | .int,n=>[.i .i64 n]
 | .bool,x=>[.b x]
 | .byte,x=>[.i .u8 (x.toNat:Int)]
 | .str,x=>[.s x]
 | .slot,x=>[.s x.Name,.i .i64 x.Ino]
 | .inode,x=>[.i .i64 x.Kind,.i .i64 x.Links,.l .int x.ax]
 | .block,x=>[.b x.cp,.l .slot x.an,.s x.Text]
 | .dep,x=>[.i .i64 x.Id,.i .i64 x.Kind,.i .i64 x.Ino,.i .i64 x.Ptr,.i .i64 x.Block,.i .i64 x.Slot,.s x.Name,.b x.aq,.b x.et,.i .i64 x.bz,.l .int x.ab]
 | .node,x=>[.s x.Path,.b x.cp,.s x.Head,.s x.Nt]
 | .event,x=>[.i .i64 x.Kind,.s x.Path,.s x.To,.i .i64 x.At,.s x.Text]
def sz:Ty->Nat
 | .int=>1 | .bool=>1 | .byte=>1 | .str=>1 | .slot=>2 | .inode=>3 | .block=>3 | .dep=>11 | .node=>4 | .event=>5
def rV:(τ:Ty)->List Ct->Option (El τ)
 | .int,[.i .i64 n]=>some n
 | .bool,[.b x]=>some x
 | .byte,[.i .u8 n]=>some (UInt8.ofNat n.toNat)
 | .str,[.s x]=>some x
 | .slot,[.s n,.i .i64 i]=>some ⟨n,i⟩
 | .inode,[.i .i64 k,.i .i64 l,.l .int p]=>some ⟨k,l,p⟩
 | .block,[.b d,.l .slot s,.s t]=>some ⟨d,s,t⟩
 | .dep,[.i .i64 a,.i .i64 b,.i .i64 c,.i .i64 d,.i .i64 e,.i .i64 f,.s g,.b h,.b i,.i .i64 j,.l .int k]=>some ⟨a,b,c,d,e,f,g,h,i,j,k⟩
 | .node,[.s a,.b b,.s c,.s d]=>some ⟨a,b,c,d⟩
 | .event,[.i .i64 a,.s b,.s c,.i .i64 d,.s e]=>some ⟨a,b,c,d,e⟩
 | _,_=>none
def CG:Ty->List Ct->Bool
 | .byte,[.i .u8 n]=>decide (0<=n)&&decide (n<256)
 | _,_=>true
def Ty.isByte:Ty->Bool
 | .byte=>true
 | _=>false
def Ty.deep:Ty->Bool
 | .inode | .block | .dep=>true
 | _=>false
inductive Cv
 | un | b (x:Bool) | i (k:IntKind) (n:Int) | s (x:ByteArray)
 | nl (τ:Ty)
 | sw (r:Nat) | sl (r off len:Nat)
 | nw (r e c:Nat) | ns (r e c off len:Nat)
 | pv (v c:Nat) | pe (r e c:Nat) | pn (r e c k d:Nat)
 | fn (f:Nat) (caps:List Nat)
inductive AV
 | c (x:Cv) | a (l:List Cv) | t (l:List (Bool×List Cv))
 | g (p:List (Nat×Bool)) (q:Bool) (v:AV)
structure Row where
 τ:Ty
 xs:List (El τ)
 ow:Nat
structure St where
 tm:List (Nat×AV)
 vs:List (Nat×List Cv)
 rs:List (Nat×Row)
def ej (w:Nat):Bool:=match w with | 2=>true | 4=>true | 5=>true | _=>false
def nF (d a:Nat):Bool:=match d with
 | 1=>true
 | 2=>ej a
 | 3=>(match a with | 3=>true | 4=>true | 5=>true | _=>false)
 | 4=>(match a with | 4=>true | 5=>true | _=>false)
 | 5=>(match a with | 5=>true | _=>false)
 | _=>false
def rT (w:Nat):Bool:=match w with | 3=>true | 4=>true | 5=>true | _=>false
def Rh (w:Nat):Nat:=match w with | 3=>4 | _=>2
def Pk (w:Nat):Nat:=match w with | 1=>1 | 2=>1 | _=>3
def lk {α:Type}:List (Nat×α)->Nat->Option α
 | [],_=>none
 | (k,v)::l,n=>match Nat.beq k n with
  | true=>some v
  | false=>lk l n
def Wd {α:Type} (n:Nat):List (Nat×α)->List (Nat×α)
 | []=>[]
 | (k,v)::l=>match Nat.beq k n with
  | true=>Wd n l
  | false=>(k,v)::Wd n l
def Mm {α:Type} (n:Nat) (v:α):List (Nat×α)->List (Nat×α)
 | []=>[]
 | (k,u)::l=>match Nat.beq k n with
  | true=>(k,v)::Mm n v l
  | false=>(k,u)::Mm n v l
def put {α:Type} (l:List (Nat×α)) (n:Nat) (v:α):List (Nat×α) :=
 match lk l n with
 | some _=>Mm n v l
 | none=>(n,v)::l
def cg (n:Nat):List Nat->Bool
 | []=>false
 | k::l=>match Nat.beq k n with
  | true=>true
  | false=>cg n l
def nth {α:Type}:List α->Nat->Option α
 | [],_=>none
 | x::_,0=>some x
 | _::l,n+1=>nth l n
def rW {α β:Type} (f:α->β):List α->List β
 | []=>[]
 | x::l=>f x::rW f l
def BY:List (Nat×Bool)->List (Nat×Bool)->Bool
 | [],_=>true
 | _::_,[]=>false
 | (a,x)::l,(b,y)::m=>Nat.beq a b&&((match x,y with | true,true | false,false=>true | _,_=>false)&&BY l m)
structure Ctx where
 P:Program
 ty:List (Nat×Ty)
 id:Ty->TypeId
 eqs:List (Nat×List Ct)
 nt:Nat
def Ctx.at (X:Ctx) (f:Func):Ctx:={ X with nt:=f.ntmps }
def Ctx.Su (X:Ctx) (t:TypeId):Option Ty:=lk X.ty t
def Az (P:Program) (t:TypeId):Bool:=match P.underlying t with | some (.struct _) | some (.array ..)=>true | _=>false
def fS (P:Program) (t:TypeId):Nat:=match P.info? t with | some i=>i.size | none=>0
def CH (P:Program) (t:TypeId):Bool:=match P.underlying t with | some (.struct _)=>true | some (.array ..)=>true | some _=>Nat.beq (fS P t) 1 | none=>false
def xS (P:Program) (t:TypeId) (f:Nat):Option Nat:=match P.underlying t with | some (.struct fs)=>(match fs[f]? with | some x=>some x.offset | none=>none) | _=>none
def Cf (P:Program) (t:TypeId) (f:Nat):TypeId:=match P.underlying t with | some (.struct fs)=>(match fs[f]? with | some x=>x.type | none=>0) | _=>0
def NF (P:Program) (t:TypeId):Option TypeId:=match P.underlying t with | some (.slice e)=>some e | _=>none
def Ctx.WT (X:Ctx) (t:TypeId):Option Ty:=match NF X.P t with | some e=>X.Su e | none=>none
def Ctx.lI (X:Ctx) (t:TypeId):Option Ty:=match NF X.P t with
 | some e=>match X.Su e with
  | some τ=>match Nat.beq (X.id τ) e with | true=>some τ | false=>none
  | none=>none
 | none=>none
def Ctx.cst (X:Ctx) (t:TypeId):Value->Cv
 | .bool b=> .b b
 | .int k n=> .i k n
 | .string s=> .s s
 | .slice none 0 0=>match X.WT t with | some τ=> .nl τ | none=> .un
 | _=> .un
def Ctx.Td (X:Ctx):Nat->TypeId->Option (List Cv)
 | 0,_=>none
 | d+1,t=>match X.P.underlying t with
  | some .bool=>some [.b false]
  | some (.int k)=>some [.i k 0]
  | some .string=>some [.s .empty]
  | some (.slice e)=>match X.Su e with | some τ=>some [.nl τ] | none=>some [.un]
  | some (.struct fs)=>zs (X.Td d) fs.toList
  | _=>none
 where zs (f:TypeId->Option (List Cv)):List Field->Option (List Cv)
 | []=>some []
 | x::l=>match f x.type,zs f l with
  | some a,some b=>some (a++b)
  | _,_=>none
def Fy:IntKind->IntKind->Bool
 | .i8,.i8 | .i16,.i16 | .i32,.i32 | .i64,.i64 | .u8,.u8 | .u16,.u16 | .u32,.u32 | .u64,.u64=>true
 | _,_=>false
def Xa:Cv->Value->Bool
 | .un,.agg _=>false
 | .un,.tuple _=>false
 | .un,_=>true
 | .b false,.bool false=>true
 | .i k n,.int k' n'=>Fy k k'&&(match n,n' with | .ofNat 0,.ofNat 0=>true | _,_=>false)
 | .s x,.string y=>Nat.beq x.size 0&&Nat.beq y.size 0
 | .nl _,.slice none 0 0=>true
 | _,_=>false
def Lh:List Cv->List Value->Bool
 | [],[]=>true
 | x::l,y::m=>Xa x y&&Lh l m
 | _,_=>false
def GW (P:Program):List Field->Bool
 | []=>true
 | f::l=>match P.info? f.type with | some _=>GW P l | none=>false
def RM (P:Program) (t:TypeId):Bool:=match P.underlying t with | some (.struct fs)=>GW P fs.toList | _=>false
def Ctx.zero (X:Ctx) (t:TypeId):Option (List Cv):=match X.Td 8 t,X.P.info? t with
 | some cs,some i=>match i.zero with
  | some z=>match Lh cs z.cells.toList with | true=>some cs | false=>none
  | none=>none
 | _,_=>none
def St.get (s:St) (t:Nat):AV:=match lk s.tm t with | some v=>v | none=> .c .un
def St.put (s:St) (d:Option Nat) (v:AV):St:=match d with | some d=>{ s with tm:=(d,v)::s.tm } | none=>s
def Ctx.xV (X:Ctx) (s:St) (p:List (Nat×Bool)) (ty:TypeId):Operand->AV
 | .tmp t=>match s.get t with
  | .g p' _ v=>match BY p' p with | true=>v | false=> .c .un
  | v=>v
 | .const v=> .c (X.cst ty v)
 | .func f=> .c (.fn f [])
 | .global _=> .c .un
structure Lk where
 r:Nat->Option Row
 v:Nat->Option (List Cv)
def St.lk (s:St):Lk:=⟨Soft.lk s.rs,Soft.lk s.vs⟩
def W7 (r e:Nat) (c:Nat):Ct->Cv
 | .u=> .un | .b x=> .b x | .i k n=> .i k n | .s x=> .s x | .l _ _=> .nw r e c
def sq (r e:Nat):Nat->List Ct->List Cv
 | _,[]=>[]
 | c,x::l=>W7 r e c x::sq r e (c+1) l
def Row.cs (row:Row) (e:Nat):List Ct:=cells row.τ (row.xs.getD e (ch row.τ))
inductive Vw
 | no | w (τ:Ty) (xs:List (El τ)) | p (τ:Ty) (xs:List (El τ)) (off len:Nat)
def Lk.vw (m:Lk):Cv->Vw
 | .nl τ=> .w τ []
 | .sw r=>match m.r r with | some row=> .w row.τ row.xs | none=> .no
 | .sl r off len=>match m.r r with | some row=> .p row.τ row.xs off len | none=> .no
 | .nw r e c=>match m.r r with
  | some row=>match nth (row.cs e) c with | some (.l τ ys)=> .w τ ys | _=> .no
  | none=> .no
 | .ns r e c off len=>match m.r r with
  | some row=>match nth (row.cs e) c with | some (.l τ ys)=> .p τ ys off len | _=> .no
  | none=> .no
 | _=> .no
def sub {α:Type} (xs:List α) (off len:Nat):List α:=(xs.drop off).take len
def Vw.ct:Vw->Option Ct
 | .no=>none
 | .w τ xs=>some (.l τ xs)
 | .p τ xs off len=>some (.l τ (sub xs off len))
def Vw.len:Vw->Option Nat
 | .no=>none
 | .w _ xs=>some xs.length
 | .p _ _ _ len=>some len
def Lk.ct (m:Lk):Cv->Option Ct
 | .un=>some .u | .b x=>some (.b x) | .i k n=>some (.i k n) | .s x=>some (.s x)
 | c=>(m.vw c).ct
def Lk.iw (m:Lk):List Cv->Option (List Ct)
 | []=>some []
 | c::l=>match m.ct c with
  | some x=>match m.iw l with | some y=>some (x::y) | none=>none
  | none=>none
def Lk.from (m:Lk):Cv->Option (List Cv)
 | .pv v c=>match m.v v with | some cs=>some (cs.drop c) | none=>none
 | .pe r e c=>match m.r r with | some row=>some ((sq r e 0 (row.cs e)).drop c) | none=>none
 | .pn r e c k d=>match m.vw (.nw r e c) with
  | .w τ ys=>match τ.deep with
   | true=>none
   | false=>some ((sq 0 0 0 (cells τ (ys.getD k (ch τ)))).drop d)
  | _=>none
 | _=>none
structure Dl where
 mv:List (Nat×(Nat×Nat×Nat))
 kr:List Nat
 ke:List Nat
 kn:List Nat
 kv:List Nat
 rs:List (Nat×Option Row)
 vs:List (Nat×List Cv)
def Dl.z:Dl:=⟨[],[],[],[],[],[],[]⟩
def Cv.row:Cv->Option Nat
 | .sw r | .sl r _ _ | .nw r _ _ | .ns r _ _ _ _ | .pe r _ _ | .pn r _ _ _ _=>some r
 | _=>none
def Cv.inner:Cv->Bool
 | .nw .. | .ns .. | .pn .. =>true
 | _=>false
def rU (l m:List Nat):Bool:=match l with
 | []=>false
 | x::l=>match cg x m with | true=>true | false=>rU l m
def Dl.map (δ:Dl) (x:Cv):Cv:=match x with
 | .pv v _=>match cg v δ.kv with | true=> .un | false=>x
 | .fn _ caps=>match rU caps δ.kv with | true=> .un | false=>x
 | .sw r=>match Soft.lk δ.mv r with
  | some (d,e,c)=> .nw d e c
  | none=>match cg r δ.kr with | true=> .un | false=>x
 | .sl r o n=>match Soft.lk δ.mv r with
  | some (d,e,c)=> .ns d e c o n
  | none=>match cg r δ.kr,cg r δ.ke with | false,false=>x | _,_=> .un
 | .pe r k a=>match Soft.lk δ.mv r with
  | some (d,e,c)=> .pn d e c k a
  | none=>match cg r δ.kr,cg r δ.ke with | false,false=>x | _,_=> .un
 | .nw r _ _ | .ns r _ _ _ _ | .pn r _ _ _ _=>match Soft.lk δ.mv r with
  | some _=> .un
  | none=>match cg r δ.kr,cg r δ.ke,cg r δ.kn with | false,false,false=>x | _,_,_=> .un
 | x=>x
def ky (f:Cv->Cv):AV->AV
 | .c x=> .c (f x)
 | .a l=> .a (l.map f)
 | .t l=> .t (l.map fun p=>(p.1,p.2.map f))
 | .g p q v=> .g p q (ky f v)
def IS (l:List (Nat×Row)):List (Nat×Option Row)->List (Nat×Row)
 | []=>l
 | (k,some row)::m=>IS (Soft.put l k row) m
 | (k,Option.none)::m=>IS (Wd k l) m
def NO (l:List (Nat×List Cv)):List (Nat×List Cv)->List (Nat×List Cv)
 | []=>l
 | (k,cs)::m=>NO (Soft.put l k cs) m
def Dl.quiet (δ:Dl):Bool:=match δ.mv,δ.kr,δ.ke,δ.kn,δ.kv with
 | [],[],[],[],[]=>true
 | _,_,_,_,_=>false
def St.app (s:St) (δ:Dl):St:=match δ.quiet with
 | true=>⟨s.tm,NO s.vs δ.vs,IS s.rs δ.rs⟩
 | false=>⟨s.tm.map fun p=>(p.1,ky δ.map p.2),NO (s.vs.map fun p=>(p.1,p.2.map δ.map)) δ.vs,IS s.rs δ.rs⟩
structure Ab where
 ct:Ct
 mv:Option Nat
 sh:Option (Nat×Nat)
 lv:Nat
def Lk.eH (m:Lk) (x:Cv):Option Ab :=
 match x with
 | .b y=>some ⟨.b y,none,none,5⟩ | .i k n=>some ⟨.i k n,none,none,5⟩ | .s y=>some ⟨.s y,none,none,5⟩
 | .nl τ=>match τ.deep with | true=>none | false=>some ⟨.l τ [],none,none,5⟩
 | .sw r=>match m.r r with
  | some row=>match row.τ.deep with
   | true=>none
   | false=>match ej row.ow with
    | true=>some ⟨.l row.τ row.xs,some r,none,5⟩
    | false=>some ⟨.l row.τ row.xs,none,none,Rh row.ow⟩
  | none=>none
 | x=>match (m.vw x).ct,x.row with
  | some (.l τ y),some r=>match τ.deep,m.r r with
   | false,some row=>match x.inner with
    | true=>match row.ow with
     | 5=>some ⟨.l τ y,none,some (r,4),4⟩
     | 4=>some ⟨.l τ y,none,none,4⟩
     | 3=>some ⟨.l τ y,none,none,4⟩
     | _=>some ⟨.l τ y,none,none,2⟩
    | false=>match ej row.ow with
     | true=>match nF 4 row.ow with
      | true=>some ⟨.l τ y,none,some (r,3),4⟩
      | false=>none
     | false=>some ⟨.l τ y,none,none,Rh row.ow⟩
   | _,_=>none
  | _,_=>none
structure Ix where
 iw:List Ct
 mv:List (Nat×(Nat×Nat))
 sh:List (Nat×Nat)
 lv:Nat
def Lk.bT (m:Lk) (e:Nat):Nat->List Cv->Option Ix
 | _,[]=>some ⟨[],[],[],5⟩
 | c,x::l=>match m.eH x,m.bT e (c+1) l with
  | some a,some b=>some ⟨a.ct::b.iw,(match a.mv with | some r=>(r,(e,c))::b.mv | none=>b.mv),(match a.sh with | some p=>p::b.sh | none=>b.sh),min a.lv b.lv⟩
  | _,_=>none
def fv:List Nat->Bool
 | []=>true
 | x::l=>match cg x l with | true=>false | false=>fv l
def jx:List Nat->List Nat->Bool
 | [],_=>true
 | x::l,m=>match cg x m with | true=>false | false=>jx l m
def keys {α:Type}:List (Nat×α)->List Nat
 | []=>[]
 | (k,_)::l=>k::keys l
def Lk.share (m:Lk):List (Nat×Nat)->List (Nat×Option Row)
 | []=>[]
 | (r,w)::l=>match m.r r with
  | some row=>(r,some { row with ow:=w })::m.share l
  | none=>m.share l
def gone:List (Nat×(Nat×Nat))->List (Nat×Option Row)
 | []=>[]
 | (r,_)::l=>(r,none)::gone l
inductive Out | no | r0 (v:AV) | r (p:Bool) (v:AV) | w0 (v:AV) (δ:Dl) | w (p:Bool) (v:AV) (δ:Dl)
def UN (ag:Bool) (l:List Cv):AV:=match ag with
 | true=> .a l
 | false=>match l with | [x]=> .c x | _=> .c .un
def AV.cells:AV->Option (List Cv)
 | .c .un=>none
 | .c x=>some [x]
 | .a l=>some l
 | _=>none
def u8:AV:= .t []
def UY (op:BinOp) (a b:Int):Option Bool:=match op with
 | .eql=>some (a==b) | .neq=>some (!(a==b)) | .lss=>some (decide (a<b)) | .leq=>some (decide (a<=b)) | .gtr=>some (decide (b<a)) | .geq=>some (decide (b<=a))
 | _=>none
def QD (a b:ByteArray):Bool:=Op.bytesLess a.toList b.toList
def XB (op:BinOp) (a b:ByteArray):Option Bool:=match op with
 | .eql=>some (a==b) | .neq=>some (!(a==b)) | .lss=>some (QD a b) | .gtr=>some (QD b a) | .leq=>some (!(QD b a)) | .geq=>some (!(QD a b))
 | _=>none
def N2:Cv->Cv->Option Bool
 | .b x,.b y=>some (x==y)
 | .i _ x,.i _ y=>some (x==y)
 | .s x,.s y=>some (x==y)
 | _,_=>none
def yG:List Cv->List Cv->Option Bool
 | [],[]=>some true
 | x::l,y::m=>match N2 x y,yG l m with
  | some a,some b=>some (match l with | []=>a | _=>a&&b)
  | _,_=>none
 | _,_=>none
def Ln:Ty->Ty->Bool
 | .int,.int | .bool,.bool | .byte,.byte | .str,.str | .slot,.slot | .inode,.inode | .block,.block | .dep,.dep | .node,.node | .event,.event=>true
 | _,_=>false
def mE (op:BinOp) (x y:AV):Out:=match x,y with
 | .c (.i k a),.c (.i k' b)=>match op with
  | .shl=> .r (decide (0<=b)) (.c (.i k (k.wrap (a*2 ^ (min b.toNat k.bits)))))
  | .shr=> .r (decide (0<=b)) (.c (.i k (a.fdiv (2 ^ (min b.toNat k.bits)))))
  | op=>match Fy k k' with
   | false=> .no
   | true=>match op with
    | .add=> .r0 (.c (.i k (k.wrap (a+b)))) | .sub=> .r0 (.c (.i k (k.wrap (a-b)))) | .mul=> .r0 (.c (.i k (k.wrap (a*b))))
    | .quo=> .r (!(b==0)) (.c (.i k (k.wrap (a.tdiv b))))
    | .rem=> .r (!(b==0)) (.c (.i k (a.tmod b)))
    | .and=> .r0 (.c (.i k (k.wrap ((BitVec.ofInt k.bits a &&& BitVec.ofInt k.bits b).toNat))))
    | .or=> .r0 (.c (.i k (k.wrap ((BitVec.ofInt k.bits a ||| BitVec.ofInt k.bits b).toNat))))
    | .xor=> .r0 (.c (.i k (k.wrap ((BitVec.ofInt k.bits a ^^^ BitVec.ofInt k.bits b).toNat))))
    | op=>match UY op a b with | some c=> .r0 (.c (.b c)) | none=> .no
 | .c (.s a),.c (.s b)=>match op with
  | .add=> .r (decide (a.size+b.size<=4611686018427387904)) (.c (.s (a++b)))
  | op=>match XB op a b with | some c=> .r0 (.c (.b c)) | none=> .no
 | .c (.b a),.c (.b b)=>match op with
  | .eql=> .r0 (.c (.b (a==b))) | .neq=> .r0 (.c (.b (!(a==b)))) | _=> .no
 | .a l,.a m=>match op,yG l m with
  | .eql,some c=> .r0 (.c (.b c)) | .neq,some c=> .r0 (.c (.b (!c))) | _,_=> .no
 | _,_=> .no
def Xe (x:Bool) (u v:AV):AV:=match u,v with
 | .c (.b p),.c (.b q)=> .c (.b (bif x then p else q))
 | _,_=> .c .un
def bt (s:ByteArray) (i:Nat):Nat:=(s.data.getD i 0).toNat
def bc (i:Int) (n:Nat):Bool:=decide (0<=i)&&decide (i<(n:Int))
def Lk.q8 (m:Lk) (x:Cv) (i:Int) (z:Nat):Out:=match x with
 | .sw r=>match m.vw x with | .w τ xs=>(match Nat.beq (sz τ) z with | true=> .r (bc i xs.length) (.c (.pe r i.toNat 0)) | false=> .no) | _=> .no
 | .sl r off len=>match m.vw x with | .p τ _ _ _=>(match Nat.beq (sz τ) z with | true=> .r (bc i len) (.c (.pe r (off+i.toNat) 0)) | false=> .no) | _=> .no
 | .nw r e c=>match m.vw x with | .w τ xs=>(match Nat.beq (sz τ) z with | true=> .r (bc i xs.length) (.c (.pn r e c i.toNat 0)) | false=> .no) | _=> .no
 | .ns r e c off len=>match m.vw x with | .p τ _ _ _=>(match Nat.beq (sz τ) z with | true=> .r (bc i len) (.c (.pn r e c (off+i.toNat) 0)) | false=> .no) | _=> .no
 | .nl _=> .r false (.c .un)
 | _=> .no
def H5 (x:Cv) (n:Nat):Cv:=match x with
 | .pv v c=> .pv v (c+n) | .pe r e c=> .pe r e (c+n) | .pn r e c k d=> .pn r e c k (d+n) | _=> .un
def cQ {α:Type} (l:List α) (c:Nat) (m:List α):List α:=l.take c++m++l.drop (c+m.length)
def jO:List Cv->Bool
 | []=>true
 | .b _::l | .i .. ::l | .s _::l=>jO l
 | _=>false
def UP (r:Nat):List (Nat×(Nat×Nat))->List (Nat×(Nat×Nat×Nat))
 | []=>[]
 | (k,(e,c))::l=>(k,(r,e,c))::UP r l
def Lk.store (m:Lk) (x:Cv) (vl:List Cv):Out:=match x with
 | .pv v c=>match m.v v with
  | some cs=>match Nat.ble (c+vl.length) cs.length with
   | true=> .w0 u8 { Dl.z with vs:=[(v,cQ cs c vl)] }
   | false=> .no
  | none=> .no
 | .pe r e c=>match m.r r with
  | some row=>match ej row.ow,m.bT e c vl with
   | true,some a=>match Nat.ble (c+vl.length) (sz row.τ),rV row.τ (cQ (row.cs e) c a.iw) with
    | true,some y=>match jO vl with
     | true=> .w (CG row.τ a.iw) u8 { Dl.z with rs:=[(r,some { row with xs:=row.xs.set e y })] }
     | false=>match fv (r::(keys a.mv++keys a.sh)) with
      | true=> .w (CG row.τ a.iw) u8 { Dl.z with mv:=UP r a.mv,kn:=[r],rs:=gone a.mv++(m.share a.sh++[(r,some { row with xs:=row.xs.set e y,ow:=min row.ow a.lv })]) }
      | false=> .no
    | _,_=> .no
   | _,_=> .no
  | none=> .no
 | .pn r e c k d=>match m.r r with
  | some row=>match Nat.beq row.ow 5,jO vl,m.iw vl with
   | true,true,some iw=>match nth (row.cs e) c with
    | some (.l τ ys)=>match Nat.ble (d+vl.length) (sz τ),rV τ (cQ (cells τ (ys.getD k (ch τ))) d iw) with
     | true,some y=>match rV row.τ (cQ (row.cs e) c [.l τ (ys.set k y)]) with
      | some z=> .w (CG τ iw) u8 { Dl.z with rs:=[(r,some { row with xs:=row.xs.set e z })] }
      | none=> .no
     | _,_=> .no
    | _=> .no
   | _,_,_=> .no
  | none=> .no
 | _=> .no
structure Xv (τ:Ty) where
 ys:List (El τ)
 mv:List (Nat×(Nat×Nat))
 sh:List (Nat×Nat)
 lv:Nat
 ok:Bool
def Lk.kf (m:Lk) (τ:Ty):Nat->List (List Cv)->Option (Xv τ)
 | _,[]=>some ⟨[],[],[],5,true⟩
 | e,x::l=>match m.bT e 0 x,m.kf τ (e+1) l with
  | some a,some b=>match rV τ a.iw with
   | some y=>some ⟨y::b.ys,a.mv++b.mv,a.sh++b.sh,min a.lv b.lv,CG τ a.iw&&b.ok⟩
   | none=>none
  | _,_=>none
def M6:Nat:=1099511627776
def BT:(τ τ':Ty)->List (El τ')->List (El τ)->Option (List (El τ'))
 | .int,.int,xs,ys=>some (xs++ys) | .bool,.bool,xs,ys=>some (xs++ys) | .byte,.byte,xs,ys=>some (xs++ys) | .str,.str,xs,ys=>some (xs++ys)
 | .slot,.slot,xs,ys=>some (xs++ys) | .inode,.inode,xs,ys=>some (xs++ys) | .block,.block,xs,ys=>some (xs++ys) | .dep,.dep,xs,ys=>some (xs++ys)
 | .node,.node,xs,ys=>some (xs++ys) | .event,.event,xs,ys=>some (xs++ys) | _,_,_,_=>none
def V5 (a:Option Nat) (b:Nat):Bool:=match a with | some a=>(match Nat.beq a b with | true=>false | false=>true) | none=>true
structure Ap where
 gone:List Nat
 rs:List (Nat×Option Row)
 lv:Nat
def Lk.iW (m:Lk) (τ:Ty) (y:Cv):Ap:=match τ.deep,y.row with
 | true,some r=>match m.r r with
  | some row=>match row.ow with
   | 5=>(match y with
    | .sw _=>⟨[r],[(r,none)],5⟩
    | _=>⟨[],[(r,some { row with ow:=4 })],4⟩)
   | 4=>⟨[],[],4⟩
   | 3=>⟨[],[],4⟩
   | _=>⟨[],[],2⟩
  | none=>⟨[],[],2⟩
 | _,_=>⟨[],[],5⟩
def yV (r:Nat):Bool:=match Nat.ble 200000 r,Nat.ble r 299999 with | true,true=>false | _,_=>true
def Lk.append (m:Lk) (τ0:Ty) (d:Nat) (x y:Cv):Out :=
 match (m.vw y).ct with
 | some (.l τ ys)=>match Ln τ τ0,m.iW τ y with
  | true,⟨g,sy,lv⟩=>match x with
   | .nl _=>match V5 y.row (d*64) with
    | true=> .w (Nat.ble ys.length M6) (.c (.sw (d*64))) { Dl.z with kr:=d*64::g,rs:=sy++[(d*64,some ⟨τ,ys,lv⟩)] }
    | false=> .no
   | .sw r=>match V5 y.row r&&yV r,m.r r with
    | true,some ⟨τ',xs,ow⟩=>match ej ow,BT τ τ' xs ys with
     | true,some zs=> .w (Nat.ble zs.length M6) (.c (.sw r)) { Dl.z with kr:=r::g,rs:=sy++[(r,some ⟨τ',zs,min ow lv⟩)] }
     | _,_=> .no
    | _,_=> .no
   | _=> .no
  | _,_=> .no
 | _=> .no
def Lk.oJ (m:Lk) (x:AV) (lo hi:Option Int):Out:=match x with
 | .c (.s a)=>match lo,hi with
  | none,none=> .r0 (.c (.s (a.extract 0 a.size)))
  | some l,none=> .r (decide (0<=l)&&decide (l<=(a.size:Int))) (.c (.s (a.extract l.toNat a.size)))
  | none,some h=> .r (decide (0<=h)&&decide (h<=(a.size:Int))) (.c (.s (a.extract 0 h.toNat)))
  | some l,some h=> .r (decide (0<=l)&&(decide (l<=h)&&decide (h<=(a.size:Int)))) (.c (.s (a.extract l.toNat h.toNat)))
 | .c x=>match (m.vw x).len with
  | none=> .no
  | some n =>
   let mk (l:Nat) (k:Nat):AV:=match x with
    | .sw r=> .c (.sl r l k) | .sl r off _=> .c (.sl r (off+l) k) | .nw r e c=> .c (.ns r e c l k) | .ns r e c off _=> .c (.ns r e c (off+l) k) | .nl τ=> .c (.nl τ) | _=> .c .un
   match lo,hi with
   | none,none=> .r0 (.c x)
   | some l,none=> .r (decide (0<=l)&&decide (l<=(n:Int))) (mk l.toNat (n-l.toNat))
   | none,some h=> .r (decide (0<=h)&&decide (h<=(n:Int))) (mk 0 h.toNat)
   | some l,some h=> .r (decide (0<=l)&&(decide (l<=h)&&decide (h<=(n:Int)))) (mk l.toNat (h.toNat-l.toNat))
 | _=> .no
def AV.int:AV->Option Int
 | .c (.i _ n)=>some n
 | _=>none
def Io (f:Operand->AV):Option Operand->Option (Option Int)
 | none=>some none
 | some o=>match (f o).int with | some n=>some (some n) | none=>none
def AH (X:Ctx) (t:TypeId) (f:Operand->AV):List (Nat×Operand)->List Cv->Option (List Cv)
 | [],acc=>some acc
 | (i,o)::l,acc=>match xS X.P t i,(f o).cells with
  | some off,some cs=>match Nat.ble (off+cs.length) acc.length,Nat.beq cs.length (fS X.P (Cf X.P t i)) with
   | true,true=>AH X t f l (cQ acc off cs)
   | _,_=>none
  | _,_=>none
def partsOf (f:Operand->AV) (z:Nat):Nat->List (Nat×Operand)->Option (List (List Cv))
 | _,[]=>some []
 | n,(i,o)::l=>match Nat.beq i n,(f o).cells,partsOf f z (n+1) l with
  | true,some cs,some r=>match Nat.beq cs.length z with | true=>some (cs::r) | false=>none
  | _,_,_=>none
def yk (f:Operand->AV):List Operand->Option (List Nat)
 | []=>some []
 | o::l=>match f o,yk f l with
  | .c (.pv v 0),some r=>some (v::r)
  | _,_=>none
def bytesOf:Vw->Option (List UInt8)
 | .w .byte xs=>some xs
 | .p .byte xs off len=>some (sub xs off len)
 | _=>none
def A9 (P:Program) (t:TypeId):Nat:=match NF P t with | some e=>fS P e | none=>0
def isStr (P:Program) (t:TypeId):Bool:=match P.underlying t with | some .string=>true | _=>false
def Hb (P:Program) (t:TypeId):Bool:=match P.underlying t with | some (.slice _)=>true | _=>false
def Vw.ty:Vw->Option Ty
 | .no=>none | .w τ _=>some τ | .p τ _ _ _=>some τ
def Lk.j7 (m:Lk) (P:Program) (t:TypeId):AV->Bool
 | .c (.s _)=>isStr P t
 | .c x=>match (m.vw x).ty with | some τ=>Nat.beq (sz τ) (A9 P t) | none=>false
 | _=>false
def Kf:Ct->Cv->Bool
 | .b _,.b _=>true
 | .i k _,.i k' _=>Fy k k'
 | .s _,.s _=>true
 | _,_=>false
def m4:List Ct->List Cv->Bool
 | [],[]=>true
 | c::l,x::m=>Kf c x&&m4 l m
 | _,_=>false
def Ctx.ER (X:Ctx) (op:BinOp) (t:TypeId) (x y:AV):Out:=match x,y with
 | .c (.b a),y'=>match X.P.underlying t with | some .bool=>mE op (.c (.b a)) y' | _=> .no
 | .a l,y'=>match lk X.eqs t,y' with
  | some ks,.a m=>match m4 ks l&&m4 ks m with | true=>mE op (.a l) (.a m) | false=> .no
  | _,_=> .no
 | x',y'=>mE op x' y'
def V4 (op:UnOp) (x:AV):Out:=match op,x with
 | .not,.c (.b b)=> .r0 (.c (.b (!b)))
 | .neg,.c (.i k n)=> .r0 (.c (.i k (k.wrap (0-n))))
 | _,_=> .no
def Ctx.JK (X:Ctx) (m:Lk) (t u:TypeId) (x:AV):Out:=match X.P.underlying t,X.P.underlying u,x with
 | some _,some (.int k),.c (.i _ n)=> .r0 (.c (.i k (k.wrap n)))
 | some (.slice e),some .string,.c a=>match bytesOf (m.vw a),X.P.underlying e with
  | some xs,some (.int .u8)=> .r0 (.c (.s ⟨xs.toArray⟩))
  | _,_=> .no
 | _,_,_=> .no
def Oy (b:Bool):Option Nat->Out
 | some n=>match b with | true=> .r0 (.c (.i .i64 n)) | false=> .no
 | none=> .no
def Ctx.Iw (X:Ctx) (m:Lk) (t:TypeId):AV->Out
 | .c (.s a)=>match isStr X.P t with | true=> .r0 (.c (.i .i64 a.size)) | false=> .no
 | .c a=>Oy (Hb X.P t) (m.vw a).len
 | _=> .no
def V7 (f:Int->Int->Int) (x y:AV):Out:=match x,y with
 | .c (.i k a),.c (.i k' b)=>(match Fy k k' with | true=> .r0 (.c (.i k (f a b))) | false=> .no)
 | _,_=> .no
def Ctx.U7 (X:Ctx) (m:Lk) (d:Nat) (t u:TypeId) (x y:AV):Out:=match X.lI t,Nat.beq t u,x,y with
 | some τ,true,.c a,.c b=>m.append τ d a b
 | _,_,_,_=> .no
def Ctx.sN (X:Ctx) (m:Lk) (t:TypeId) (x:AV):Out:=match x,X.lI t with
 | .c (.sl r off len),some τ=>match m.r r with
  | some row=>match ej row.ow&&Ln row.τ τ,row.τ.deep&&Nat.beq row.ow 5 with
   | true,false=> .w0 u8 { Dl.z with kn:=[r],rs:=[(r,some { row with xs:=row.xs.take off++(List.replicate len (ch row.τ)++row.xs.drop (off+len)) })] }
   | _,_=> .no
  | none=> .no
 | _,_=> .no
def Lk.dst (m:Lk):Cv->Option (Nat×Row×Nat×Nat)
 | .sw r=>match m.r r with | some row=>some (r,row,0,row.xs.length) | none=>none
 | .sl r off len=>match m.r r with | some row=>some (r,row,off,len) | none=>none
 | _=>none
def RT:Ty->Bool
 | .int | .bool | .byte | .str=>true
 | _=>false
def Ctx.uR (X:Ctx) (m:Lk) (t:TypeId) (x y:AV):Out:=match x,y,X.lI t with
 | .c a,.c b,some τ=>match m.dst a,(m.vw b).ct with
  | some (r,row,off,len),some (.l σ ys)=>match ej row.ow&&(Ln row.τ τ&&RT τ),BT σ row.τ (row.xs.take off) (ys.take (min ys.length len)) with
   | true,some zs=> .w0 (.c (.i .i64 (min ys.length len:Nat))) { Dl.z with kn:=[r],rs:=[(r,some { row with xs:=zs++row.xs.drop (off+min ys.length len) })] }
   | _,_=> .no
  | _,_=> .no
 | _,_,_=> .no
def bZ (X:Ctx) (evp:List (Nat×Bool)->TypeId->Operand->AV) (m:Lk) (d:Nat) (ty:TypeId) (op:Op):Out :=
 let ev:=evp []
 match op with
 | .move x | .assign x=> .r0 (ev ty x)
 | .pick c a b=>match c with
  | .tmp t=>match ev ty c with
   | .c (.b x)=> .r0 (Xe x (evp [(t,true)] ty a) (evp [(t,false)] ty b))
   | _=> .no
  | _=> .no
 | .alloc t=>match X.zero t with
  | some cs=> .w0 (.c (.pv (1000+d) 0)) { Dl.z with kv:=[1000+d],vs:=[(1000+d,cs)] }
  | none=> .no
 | .box t x=>match (ev t x).cells with
  | some cs=>match Nat.beq cs.length (fS X.P t) with
   | true=> .w0 (.c (.pv (1000+d) 0)) { Dl.z with kv:=[1000+d],vs:=[(1000+d,rW (Dl.map { Dl.z with kv:=[1000+d] }) cs)] }
   | false=> .no
  | none=> .no
 | .build t parts=>match X.zero t,RM X.P t with
  | some zs,true=>match AH X t (ev ty) parts.toList zs with
   | some cs=> .r0 (.a cs)
   | none=> .no
  | _,_=> .no
 | .buildSlice t n parts=>match X.lI t with
  | none=> .no
  | some τ=>match Nat.beq parts.size n&&Nat.ble (n*sz τ) 16777216,partsOf (ev ty) (sz τ) 0 parts.toList with
   | true,some pss=>match m.kf τ 0 pss with
    | some b=>match fv (d*64::(keys b.mv++keys b.sh)) with
     | true =>
      let δ:Dl:={ Dl.z with kr:=d*64::keys b.mv,rs:=gone b.mv++(m.share b.sh++[(d*64,some ⟨τ,b.ys,b.lv⟩)]) }
      match τ.isByte with
      | true=> .w b.ok (.c (.sw (d*64))) δ
      | false=> .w0 (.c (.sw (d*64))) δ
     | false=> .no
    | none=> .no
   | _,_=> .no
 | .load t x=>match ev ty x with
  | .c a=>match m.from a with
   | some cs=>match Nat.ble (fS X.P t) cs.length&&CH X.P t with
    | true=> .r0 (UN (Az X.P t) (cs.take (fS X.P t)))
    | false=> .no
   | none=> .no
  | _=> .no
 | .store t x v=>match ev ty x,(ev t v).cells with
  | .c a,some cs=>match Nat.beq cs.length (fS X.P t)&&Nat.ble 1 cs.length with
   | true=>m.store a cs
   | false=> .no
  | _,_=> .no
 | .nilCheck x=>match ev ty x with
  | .c (.pv v c)=> .r0 (.c (.pv v c)) | .c (.pe r e c)=> .r0 (.c (.pe r e c)) | .c (.pn r e c k d)=> .r0 (.c (.pn r e c k d))
  | _=> .no
 | .binOp op t x y _=>X.ER op t (ev t x) (ev t y)
 | .unOp op t x=>V4 op (ev t x)
 | .convert t u x=>X.JK m t u (ev t x)
 | .makeFunc (.func f) first caps=>match first.size,yk (ev ty) caps.toList with
  | 0,some vs=> .r0 (.c (.fn f vs))
  | _,_=> .no
 | .makeSlice t n c=>match X.lI t,(ev ty n).int,(ev ty c).int with
  | some τ,some a,some b=> .w ((a==b)&&(decide (0<=a)&&Nat.ble a.toNat M6)) (.c (.sw (d*64)))
    { Dl.z with kr:=[d*64],rs:=[(d*64,some ⟨τ,List.replicate a.toNat (ch τ),5⟩)] }
  | _,_,_=> .no
 | .slice t x lo hi mx=>match mx,Io (ev ty) lo,Io (ev ty) hi with
  | none,some l,some h=>match m.j7 X.P t (ev t x) with
   | true=>m.oJ (ev t x) l h
   | false=> .no
  | _,_,_=> .no
 | .fieldAddr t x f=>match ev ty x,xS X.P t f,Nat.beq (fS X.P (Cf X.P t f)) 0 with
  | .c a,some n,false=>match H5 a n with | .un=> .no | a=> .r0 (.c a)
  | _,_,_=> .no
 | .field t x f=>match ev t x,xS X.P t f with
  | .a l,some n=>match Nat.ble (n+fS X.P (Cf X.P t f)) l.length&&CH X.P (Cf X.P t f) with
   | true=> .r0 (UN (Az X.P (Cf X.P t f)) ((l.drop n).take (fS X.P (Cf X.P t f))))
   | false=> .no
  | _,_=> .no
 | .indexAddr t x i=>match ev t x,(ev ty i).int with
  | .c a,some n=>m.q8 a n (A9 X.P t)
  | _,_=> .no
 | .index t x i=>match ev t x,(ev ty i).int with
  | .c (.s a),some n=>match isStr X.P t with
   | true=> .r (bc n a.size) (.c (.i .u8 (bt a n.toNat)))
   | false=> .no
  | _,_=> .no
 | .extract x i=>match ev ty x with
  | .t l=>match nth l i with | some (b,cs)=> .r0 (UN b cs) | none=> .no
  | _=> .no
 | .call { callee:= .builtin b,args,argTypes }=>match b,args.toList,argTypes.toList with
  | .len,[x],[t]=>X.Iw m t (ev t x)
  | .append,[x,y],[t,u]=>X.U7 m d t u (ev t x) (ev t y)
  | .clear,[x],[t]=>X.sN m t (ev t x)
  | .copy,[x,y],[t,u]=>X.uR m t (ev t x) (ev u y)
  | .max,[x,y],_=>V7 max (ev ty x) (ev ty y)
  | .min,[x,y],_=>V7 min (ev ty x) (ev ty y)
  | _,_,_=> .no
 | _=> .no
inductive AC
 | c (x:Ct) | a (l:List Ct) | p (k:Nat) | f (g:Nat) (ks:List Nat) | al (k c:Nat) | io (τ:Ty) (xs:List (El τ))
inductive Rc
 | c (x:Ct) | m (x:Ct) | al (p j e c:Nat) | aw (p j:Nat) | un
inductive RC
 | c (x:Rc) | a (l:List Rc) | t (l:List (Bool×List Rc)) | np (l:List Rc) | u
structure CR where
 res:RC
 vo:List (List Ct)
 io:List Ct
structure ub where
 am:List Nat
 vl:List (List Nat)
 rl:List (List Nat)
 dr:RC
def hd (l:List Nat):Nat:=match l with | []=>0 | x::_=>x
def nJ {α:Type} (l:List (List α)):List α:=match l with | []=>[] | x::_=>x
def tl {α:Type} (l:List α):List α:=match l with | []=>[] | _::l=>l
def mZ (v:Nat):Nat->List Nat->Option Nat
 | _,[]=>none
 | n,w::l=>match Nat.beq w v with | true=>some n | false=>mZ v (n+1) l
def LM (κ:List Nat) (v:Nat):Nat×List Nat:=match mZ v 0 κ with
 | some k=>(k,κ)
 | none=>(κ.length,κ++[v])
def Ae (κ:List Nat):List Nat->List Nat×List Nat
 | []=>([],κ)
 | v::l=>match LM κ v with
  | (k,κ1)=>match Ae κ1 l with
   | (ks,κ2)=>(k::ks,κ2)
def wX (r:Nat):Nat->List Cv->Option Nat
 | _,[]=>none
 | n,.sw r'::l=>match Nat.beq r' r with | true=>some n | false=>wX r (n+1) l
 | n,_::l=>wX r (n+1) l
structure AR where
 cf:List AC
 κ:List Nat
 gone:List Nat
 io:List Nat
 fz:List Nat
 mT:List Nat
 ly:Bool
def Lk.LG (m:Lk) (x:Cv):Bool:=match x.row with
 | some r=>match m.r r with
  | some row=>(match row.ow with | 1=>true | 3=>true | _=>false)
  | none=>false
 | none=>true
def Lk.ME (m:Lk):List Cv->Bool
 | []=>true
 | x::l=>match m.LG x with | true=>m.ME l | false=>false
def Eu:List Cv->List Nat
 | []=>[]
 | x::l=>match x.row with | some r=>r::Eu l | none=>Eu l
def Lk.owned (m:Lk) (w:Nat):List Cv->Option (List Nat)
 | []=>some []
 | .sw r::l=>match m.r r,m.owned w l with
  | some row,some k=>match nF w row.ow with | true=>some (r::k) | false=>none
  | _,_=>none
 | .nl _::l | .b _::l | .i .. ::l | .s _::l=>m.owned w l
 | _=>none
def tf (x:AC) (g:List Nat) (io fz mT:List Nat) (b:Bool) (q:Option AR):Option AR:=match q with
 | some q=>some ⟨x::q.cf,q.κ,g++q.gone,io++q.io,fz++q.fz,mT++q.mT,match b with | true=>q.ly | false=>false⟩
 | none=>none
def mL:Ct->Ct
 | .l .. => .u
 | x=>x
def GX:AC->AC
 | .a l=> .a (rW mL l)
 | .c x=> .c (mL x)
 | x=>x
def Lk.Ps (m:Lk) (w:Nat) (cs:List Cv) (x:AC) (q:Option AR):Option AR:=match w with
 | 0=>tf x [] [] [] (Eu cs) (m.ME cs) q
 | 7=>tf (GX x) [] [] [] [] true q
 | w=>match rT w,m.owned w cs with
  | true,some g=>match w with
   | 3=>tf x [] [] g [] true q
   | _=>tf x g [] [] [] false q
  | _,_=>none
def Lk.Xs (m:Lk) (x:Cv) (q:Option AR):Option AR:=match x with
 | .sw r=>match m.r r with
  | some row=>match Nat.beq row.ow 5 with
   | true=>tf (.io row.τ row.xs) [] [r] [] [] false q
   | false=>none
  | none=>none
 | _=>none
def Lk.Xt (m:Lk) (x:Cv) (κ:List Nat) (q:Option AR):Option AR:=match x,κ with
 | .sw r,v::_=>match m.v v with
  | some cs=>match wX r 0 cs with
   | some c=>tf (.al 0 c) [] [] [] [] false q
   | none=>none
  | none=>none
 | _,_=>none
def Lk.Ur (m:Lk) (w:Nat) (x:Cv) (κ:List Nat) (q:Option AR):Option AR:=match w with
 | 9=>m.Xs x q
 | 8=>m.Xt x κ q
 | w=>match m.ct x with
  | some y=>m.Ps w [x] (.c y) q
  | none=>none
def Lk.args (m:Lk):List Nat->List AV->List Nat->Option AR
 | _,[],κ=>some ⟨[],κ,[],[],[],[],true⟩
 | am,v::l,κ=>match v with
  | .c (.pv v 0)=>match LM κ v with
   | (k,κ1)=>tf (.p k) [] [] [] [] false (m.args (tl am) l κ1)
  | .c (.fn f caps)=>match Ae κ caps with
   | (ks,κ1)=>tf (.f f ks) [] [] [] [] false (m.args (tl am) l κ1)
  | .a cs=>match Nat.ble cs.length 63,m.iw cs with
   | true,some ys=>m.Ps (hd am) cs (.a ys) (m.args (tl am) l κ)
   | _,_=>none
  | .c x=>m.Ur (hd am) x κ (m.args (tl am) l κ)
  | _=>none
def Lk.ux (m:Lk):List (List Nat)->List Nat->Option (List (List Ct))
 | _,[]=>some []
 | vl,v::l=>match m.v v with
  | some cs=>match Nat.ble cs.length 63,m.iw cs,m.ux (tl vl) l with
   | true,some a,some b=>some (a::b)
   | _,_,_=>none
  | none=>none
def kz:Ct->Option Cv
 | .u=>some .un | .b x=>some (.b x) | .i k n=>some (.i k n) | .s x=>some (.s x) | .l .. =>none
def Lk.kC (m:Lk):List Nat->List Cv->Option (List Nat×List Nat)
 | _,[]=>some ([],[])
 | ms,x::l=>match m.kC (tl ms) l with
  | none=>none
  | some (k,b)=>match hd ms with
   | 0=>match x.row with | some r=>some (k,r::b) | none=>some (k,b)
   | 1=>match x.row with | some r=>some (k,r::b) | none=>some (k,b)
   | w=>match x with
    | .sw r=>match m.r r with
     | some row=>match rT w&&yV r,nF w row.ow with | true,true=>some (r::k,b) | _,_=>none
     | none=>none
    | .nl _=>match rT w with | true=>some (k,b) | false=>none
    | _=>none
def Lk.eJ (m:Lk):List (List Nat)->List Nat->Option (List Nat×List Nat)
 | _,[]=>some ([],[])
 | vl,v::l=>match m.v v with
  | some cs=>match m.kC (nJ vl) cs,m.eJ (tl vl) l with
   | some (a,b),some (a',b')=>some (a++a',b++b')
   | _,_=>none
  | none=>none
def Lk.sF (m:Lk) (g:ub) (ar:AR):Option (List Nat×List Nat):=match m.eJ g.vl ar.κ with
 | none=>none
 | some (ow,b) =>
  match fv (ar.gone++(ow++ar.io)),jx ar.fz (ar.gone++(ow++ar.io)),jx ar.mT (ar.gone++(ow++ar.io)),jx b (ar.gone++(ow++ar.io)) with
  | true,true,true,true=>some (ow,b)
  | _,_,_,_=>none
def dW (f:Cv->Cv) (v:Nat):Nat->List Nat->List Cv->List Ct->Option (List Cv×List (Nat×Row))
 | _,_,[],[]=>some ([],[])
 | j,ms,c::cs,y::ys=>match dW f v (j+1) (tl ms) cs ys with
  | none=>none
  | some (cs',rs')=>match hd ms with
   | 0=>match kz y with | some x=>some (x::cs',rs') | none=>none
   | 1=>some (f c::cs',rs')
   | w=>match y with
    | .l τ xs=>match c with
     | .sw r=>some (.sw r::cs',(r,⟨τ,xs,w⟩)::rs')
     | _=>some (.sw (1000000+v*64+j)::cs',(1000000+v*64+j,⟨τ,xs,w⟩)::rs')
    | _=>none
 | _,_,_,_=>none
def Lk.fR (m:Lk) (f:Cv->Cv):List (List Nat)->List Nat->List (List Ct)->Option (List (Nat×List Cv)×List (Nat×Row))
 | _,[],[]=>some ([],[])
 | vl,v::κ,l::vo=>match m.v v with
  | some cs=>match dW f v 0 (nJ vl) cs l,m.fR f (tl vl) κ vo with
   | some (a,r),some (b,q)=>some ((v,a)::b,r++q)
   | _,_=>none
  | none=>none
 | _,_,_=>none
def Lk.ni (m:Lk):List Nat->List Ct->Option (List (Nat×Row))
 | [],[]=>some []
 | r::l,.l τ xs::y=>match m.r r,m.ni l y with
  | some row,some q=>match Ln row.τ τ with
   | true=>some ((r,⟨τ,xs,row.ow⟩)::q)
   | false=>none
  | _,_=>none
 | _,_=>none
def Rn (as:List AV) (p j:Nat):Option Cv:=match nth as p with
 | some (.c x)=>match j with | 0=>some x | _=>none
 | some (.a l)=>nth l j
 | _=>none
def pK (as:List AV):Rc->Option Cv
 | .aw p j=>Rn as p j
 | .al p j e c=>match Rn as p j with
  | some (.sw r)=>some (.nw r e c)
  | some (.sl r off _)=>some (.nw r (off+e) c)
  | _=>some .un
 | .un=>some .un
 | .c _=>none
 | .m _=>none
def w5 (w:Nat):Nat:=match w with | 6=>5 | w=>w
def kX (f:Cv->Cv) (as:List AV) (ly:Bool):Nat->List Nat->List Rc->Option (List Cv×List (Nat×Row))
 | _,_,[]=>some ([],[])
 | k,ms,y::ys=>match kX f as ly (k+1) (tl ms) ys with
  | none=>none
  | some (cs,rs)=>match y with
   | .m (.l τ xs)=>(match ly with
    | true=>some (.sw k::cs,(k,⟨τ,xs,1⟩)::rs)
    | false=>some (.un::cs,rs))
   | .m y=>match kz y with | some x=>some (x::cs,rs) | none=>none
   | .c (.l τ xs)=>some (.sw k::cs,(k,⟨τ,xs,w5 (hd ms)⟩)::rs)
   | .c y=>match kz y with | some x=>some (x::cs,rs) | none=>none
   | y=>match pK as y with | some x=>some (f x::cs,rs) | none=>none
def rK (f:Cv->Cv) (as:List AV) (ly:Bool):Nat->List (List Nat)->List (Bool×List Rc)->Option (List (Bool×List Cv)×List (Nat×Row))
 | _,_,[]=>some ([],[])
 | k,ms,(b,l)::ys=>match kX f as ly k (nJ ms) l,rK f as ly (k+l.length) (tl ms) ys with
  | some (cs,rs),some (ts,rs')=>some ((b,cs)::ts,rs++rs')
  | _,_=>none
def v7 (f:Cv->Cv) (as:List AV) (ly:Bool) (rl:List (List Nat)) (d:Nat):RC->Option (AV×List (Nat×Row)×List (Nat×List Cv))
 | .u=>some (.t [],[],[])
 | .c x=>match kX f as ly (d*64) (nJ rl) [x] with
  | some ([c],rs)=>some (.c c,rs,[])
  | _=>none
 | .a l=>match kX f as ly (d*64) (nJ rl) l with
  | some (cs,rs)=>some (.a cs,rs,[])
  | none=>none
 | .t l=>match rK f as ly (d*64) rl l with
  | some (ts,rs)=>some (.t ts,rs,[])
  | none=>none
 | .np l=>match kX f as ly (d*64) (nJ rl) l with
  | some (cs,rs)=>some (.c (.pv (1000+d) 0),rs,[(1000+d,cs)])
  | none=>none
def L0:List Rc->Nat
 | []=>0
 | _::l=>L0 l+1
def Mu:List (Bool×List Rc)->Nat
 | []=>0
 | (_,l)::m=>L0 l+Mu m
def Ui:Nat->Nat->List Nat
 | _,0=>[]
 | k,n+1=>k::Ui (k+1) n
def RC.keys (d:Nat):RC->List Nat
 | .u=>[] | .c _=>[d*64] | .a l=>Ui (d*64) (L0 l) | .t l=>Ui (d*64) (Mu l) | .np l=>Ui (d*64) (L0 l)
def homes (v:Nat):Nat->List Cv->List Nat
 | _,[]=>[]
 | j,_::l=>(1000000+v*64+j)::homes v (j+1) l
def Lk.lu (m:Lk):List Nat->List Nat
 | []=>[]
 | v::l=>(match m.v v with | some cs=>homes v 0 cs | none=>[])++m.lu l
def my:List (Nat×Row)->List (Nat×Option Row)
 | []=>[]
 | (k,r)::l=>(k,some r)::my l
def BU:List Nat->List (Nat×Option Row)
 | []=>[]
 | k::l=>(k,none)::BU l
def Lk.S8 (m:Lk):List Nat->List (Nat×Option Row)
 | []=>[]
 | r::l=>match m.r r with | some row=>(r,some { row with ow:=3 })::m.S8 l | none=>m.S8 l
def RC.kv (d:Nat):RC->List Nat
 | .np _=>[1000+d]
 | _=>[]
def Lk.Wb (m:Lk) (ar:AR) (res:RC) (ow:List Nat) (d:Nat):Dl:=⟨[],ar.gone++(ow++(res.keys d++m.lu ar.κ)),ar.io,[],res.kv d,[],[]⟩
def sL (n:Nat):List Nat->Bool
 | []=>true
 | x::l=>Nat.blt x n&&sL n l
def Lk.after (m:Lk) (g:ub) (as:List AV) (ar:AR) (cr:CR) (ow:List Nat) (d:Nat):Option (AV×Dl) :=
  match m.fR (m.Wb ar cr.res ow d).map g.vl ar.κ cr.vo,m.ni ar.io cr.io,v7 (m.Wb ar cr.res ow d).map as ar.ly g.rl d cr.res with
   | some (vs,r1),some r2,some (v,r3,vn) =>
    match fv (ar.gone++(keys r1++(keys r2++keys r3)))&&sL 100000 (cr.res.keys d),jx ar.fz (keys r1++(keys r2++keys r3)) with
    | true,true=>some (v,{ m.Wb ar cr.res ow d with vs:=vs++vn,rs:=BU ar.gone++(m.S8 ar.fz++(my r1++(my r2++my r3))) })
    | _,_=>none
   | _,_,_=>none
abbrev zc (R:Type):=List AC->List (List Ct)->(CR->Option R)->Option R
structure Env (R:Type) where
 sg:Nat->Option ub
 fn:Nat->zc R
inductive Ex | normal | exit (id:Nat) | ret
def ya (ops:Array Oper) (s:St):Option (Nat×Bool)->Option (List (Nat×Bool)×Bool)
 | none=>some ([],true)
 | some (j,w)=>match ops[j]? with
  | none=>none
  | some o=>match o.dst with
   | none=>none
   | some t=>match s.get t with
    | .c (.b x)=>some ([(t,w)],match w with | true=>x | false=> !x)
    | .g p q (.c (.b x))=>some (p++[(t,w)],q&&(match w with | true=>x | false=> !x))
    | _=>none
def uP:AV->AV
 | .g .. => .c .un
 | v=>v
def gd (p:List (Nat×Bool)) (q:Bool) (v:AV):AV:=match p with | []=>uP v | _=> .g p q v
def ck (p:List (Nat×Bool)) (q c:Bool):Bool:=match p with | []=>c | _=> !q||c
def aK {R:Type} (c:Bool) (k:Option R):Option R:=bif c then k else none
def Nr (q:Bool):Ct->Ct->Option Ct
 | .u,.u=>some .u
 | .b x,.b y=>some (.b (bif q then x else y))
 | .i k x,.i k' y=>match Fy k k' with | true=>some (.i k (bif q then x else y)) | false=>none
 | .s x,.s y=>some (.s (bif q then x else y))
 | .l τ x,.l σ y=>match BT σ τ [] y with | some z=>some (.l τ (bif q then x else z)) | none=>none
 | _,_=>none
def FX (q:Bool):List Ct->List Ct->Option (List Ct)
 | [],[]=>some []
 | x::l,y::m=>match Nr q x y,FX q l m with | some a,some b=>some (a::b) | _,_=>none
 | _,_=>none
def J8 (q:Bool):List (List Ct)->List (List Ct)->Option (List (List Ct))
 | [],[]=>some []
 | x::l,y::m=>match FX q x y,J8 q l m with | some a,some b=>some (a::b) | _,_=>none
 | _,_=>none
def JQ (q:Bool):Rc->Rc->Option Rc
 | .c x,.c y=>match Nr q x y with | some z=>some (.c z) | none=>none
 | .m x,.m y=>match Nr q x y with | some z=>some (.m z) | none=>none
 | .un,.un=>some .un
 | _,_=>none
def AJ (q:Bool):List Rc->List Rc->Option (List Rc)
 | [],[]=>some []
 | x::l,y::m=>match JQ q x y,AJ q l m with | some a,some b=>some (a::b) | _,_=>none
 | _,_=>none
def Ey (q:Bool):List (Bool×List Rc)->List (Bool×List Rc)->Option (List (Bool×List Rc))
 | [],[]=>some []
 | (b,x)::l,(c,y)::m=>match (match b,c with | true,true | false,false=>true | _,_=>false),AJ q x y,Ey q l m with | true,some u,some v=>some ((b,u)::v) | _,_,_=>none
 | _,_=>none
def Pd (q:Bool):RC->RC->Option RC
 | .u,.u=>some .u
 | .c x,.c y=>match JQ q x y with | some z=>some (.c z) | none=>none
 | .a x,.a y=>match AJ q x y with | some z=>some (.a z) | none=>none
 | .t x,.t y=>match Ey q x y with | some z=>some (.t z) | none=>none
 | _,_=>none
def IY (q:Bool) (x y:CR):Option CR:=match Pd q x.res y.res,J8 q x.vo y.vo,FX q x.io y.io with
 | some a,some b,some c=>some ⟨a,b,c⟩
 | _,_,_=>none
abbrev DS {R:Type} (p:List (Nat×Bool)) (q:Bool) (f:(CR->Option R)->Option R) (d:CR) (k:CR->Option R):Option R:=match p with
 | []=>f k
 | _=>f fun cr=>match IY q cr d with | some c=>k c | none=>none
def Lk.Ew (m:Lk):List Nat->List Ct
 | []=>[]
 | r::l=>match m.r r with | some row=> .l row.τ row.xs::m.Ew l | none=>m.Ew l
def Cv.rk (x:Cv):List Nat:=match x.row with | some r=>[r] | none=>[]
def Cv.vk:Cv->List Nat
 | .pv v _=>[v] | .fn _ l=>l | _=>[]
def va:List Cv->List Nat
 | []=>[]
 | x::l=>x.rk++va l
def vF:List Cv->List Nat
 | []=>[]
 | x::l=>x.vk++vF l
def OJ:List (Bool×List Cv)->List Cv
 | []=>[]
 | (_,l)::m=>l++OJ m
def AV.CJ:AV->List Cv
 | .c x=>[x] | .a l=>l | .t l=>OJ l | .g _ _ v=>v.CJ
structure Fp where
 d:Option Nat
 rt:List Nat
 wt:List Nat
 rr:List Nat
 rv:List Nat
 wr:List Nat
 wv:List Nat
 pm:List Nat
 kw:List Nat
def opT:List Operand->List Nat
 | []=>[]
 | .tmp t::l=>t::opT l
 | _::l=>opT l
def I2:List AV->List Nat
 | []=>[]
 | v::l=>va v.CJ++I2 l
def HZ:List AV->List Nat
 | []=>[]
 | v::l=>vF v.CJ++HZ l
def Lk.rowsOf (m:Lk):List Nat->List Nat
 | []=>[]
 | v::l=>(match m.v v with | some cs=>va cs | none=>[])++m.rowsOf l
def vcs:List (Nat×List Cv)->List Cv
 | []=>[]
 | (_,l)::m=>l++vcs m
def U1 (ops:Array Oper):Option (Nat×Bool)->List Nat
 | none=>[]
 | some (j,_)=>match ops[j]? with | some o=>(match o.dst with | some t=>[t] | none=>[]) | none=>[]
def Uz (as:List AV):List Nat:=HZ as
def Up (s:St) (as:List AV):List Nat:=I2 as++s.lk.rowsOf (HZ as)
def QY (ops:Array Oper) (o:Oper):List Nat:=opT o.op.operands.toList++U1 ops o.guard
def Bp {α:Type} (ks:List Nat):List (Nat×α)->List (Nat×α)
 | []=>[]
 | (k,v)::l=>match cg k ks with | true=>(k,v)::Bp ks l | false=>Bp ks l
def XF:Op->Bool
 | .move _=>false
 | .assign _=>false
 | _=>true
def F7 (ops:Array Oper) (s:St) (o:Oper):List AV:=rW s.get (QY ops o)
def xd (ops:Array Oper) (s:St) (o:Oper):List AV:=match XF o.op with | true=>F7 ops s o | false=>[]
def St.cut (s:St) (ops:Array Oper) (o:Oper):St:=⟨Bp (QY ops o) s.tm,Bp (Uz (xd ops s o)) s.vs,Bp (Up s (xd ops s o)) s.rs⟩
def Lk.varsOf (m:Lk):List Nat->List Nat
 | []=>[]
 | v::l=>(match m.v v with | some cs=>vF cs | none=>[])++m.varsOf l
def Ph (R V:List Nat):List (Nat×AV)->List Nat
 | []=>[]
 | (t,v)::l=>match rU (va v.CJ) R,rU (vF v.CJ) V with | false,false=>Ph R V l | _,_=>t::Ph R V l
def Pb (R V:List Nat):List (Nat×List Cv)->List Nat
 | []=>[]
 | (k,cs)::l=>match rU (va cs) R,rU (vF cs) V with | false,false=>Pb R V l | _,_=>k::Pb R V l
def Dl.j6 (δ:Dl):List Nat:=keys δ.mv++(δ.kr++(δ.ke++δ.kn))
def Rt:List (Nat×(Nat×Nat×Nat))->List Nat
 | []=>[]
 | (_,(d,_))::l=>d::Rt l
def jb (ops:Array Oper) (s:St) (o:Oper) (v:AV) (δ:Dl):Fp :=
 ⟨o.dst,QY ops o,(match δ.quiet with | true=>[] | false=>Ph δ.j6 δ.kv s.tm),
  I2 (F7 ops s o)++(Up s (xd ops s o)++(va v.CJ++va (vcs δ.vs))),Uz (xd ops s o),
  Rt δ.mv++(δ.j6++keys δ.rs),δ.kv++((match δ.quiet with | true=>[] | false=>Pb δ.j6 δ.kv s.vs)++keys δ.vs),
  HZ (F7 ops s o)++(s.lk.varsOf (HZ (xd ops s o))++(vF v.CJ++vF (vcs δ.vs))),δ.kv⟩
def JV (a:Option Nat) (l:List Nat):Bool:=match a with | some t=>(match cg t l with | true=>false | false=>true) | none=>true
def apart (a b:Fp):Bool :=
 jx a.wt b.rt&&(JV a.d b.rt&&(JV b.d a.rt&&((match a.d,b.d with | some x,some y=>(match Nat.beq x y with | true=>false | false=>true) | _,_=>true) &&
 (jx a.wr b.rr&&(jx a.wr b.wr&&(jx a.rr b.wr&&(jx a.wv b.rv&&(jx a.wv b.wv&&(jx a.rv b.wv&&(jx a.kw b.pm&&jx a.pm b.kw))))))))))
def NR:Ct->Bool
 | .l _ []=>true | .l .. =>false | _=>true
def pN:List Rc->Bool
 | []=>true
 | .c x::l | .m x::l=>NR x&&pN l
 | _=>false
def EO:List (Bool×List Rc)->Bool
 | []=>true
 | (_,l)::m=>pN l&&EO m
def OQ:RC->Bool
 | .u=>true | .c x=>pN [x] | .a l=>pN l | .t l=>EO l | .np _=>false
def vi:List (List Nat)->Bool
 | []=>true
 | l::m=>le1 l&&vi m
 where le1:List Nat->Bool
 | []=>true
 | x::l=>Nat.ble x 1&&le1 l
def AI (p:List (Nat×Bool)) (g:ub) (ar:AR) (v:AV):Bool:=match p with
 | []=>true
 | _=>vi g.vl&&(OQ g.dr&&(match ar.gone,ar.io,ar.fz,v with | [],[],[],.c (.pv ..)=>false | [],[],[],_=>true | _,_,_,_=>false))
def A8 {R:Type} (X:Ctx) (E:Env R) (ops:Array Oper) (s:St) (o:Oper) (K:List (Nat×Bool)->Bool->AV->Dl->Option R):Option R :=
 match ya ops s o.guard with
 | none=>none
 | some (p,q) =>
  let evp:=fun (e:List (Nat×Bool))=>X.xV s (p++e)
  match o.op with
  | .call { callee:= .value f,args,.. }=>match evp [] 0 f with
   | .c (.fn g caps)=>match E.sg g with
    | none=>none
    | some sig =>
     let ja:=rW (evp [] 0) args.toList++rW (fun v=>AV.c (.pv v 0)) caps
     match s.lk.args sig.am ja [] with
     | none=>none
     | some ar=>match s.lk.ux sig.vl ar.κ,s.lk.sF sig ar,Nat.ble ja.length 1000&&Nat.ble ar.κ.length 1000 with
      | some cH,some (ow,_),true=>DS p q (E.fn g ar.cf cH) ⟨sig.dr,cH,s.lk.Ew ar.io⟩ fun cr =>
       match s.lk.after sig ja ar cr ow (match o.dst with | some d=>d | none=>0) with
       | none=>none
       | some (v,δ)=>match AI p sig ar v with
        | true=>K p q v δ
        | false=>none
      | _,_,_=>none
   | _=>none
  | op=>match bZ X evp s.lk (match o.dst with | some d=>d | none=>0) o.type op with
   | .no=>none
   | .r0 v=>K p q v Dl.z
   | .r c v=>aK (ck p q c) (K p q v Dl.z)
   | .w0 v δ=>match p with
    | []=>K p q v δ
    | _=>none
   | .w c v δ=>match p with
    | []=>aK c (K p q v δ)
    | _=>none
def gr {R:Type} (X:Ctx) (E:Env R) (ops:Array Oper) (draw:Bool):List Oper->St->List Fp->(St->List Fp->Option R)->Option R
 | [],s,fp,K=>K s fp
 | o::l,s,fp,K=>match draw with
  | false=>A8 X E ops s o fun p q v δ=>gr X E ops draw l ((s.app δ).put o.dst (gd p q v)) fp K
  | true=>A8 X E ops (s.cut ops o) o fun p q v δ=>gr X E ops draw l ((s.app δ).put o.dst (gd p q v)) (fp++[jb ops s o v δ]) K
def lb:List Oper->List Nat
 | []=>[]
 | o::l=>match o.dst with | some d=>d::lb l | none=>lb l
def Sd (x:Nat) (l:List Nat):List Nat:=match cg x l with | true=>l | false=>x::l
def J1:List Nat->List Nat->List Nat
 | [],m=>m
 | x::l,m=>Sd x (J1 l m)
def D7 (e:Edge):Bool:=match e.ground with | .textOnly _=>false | .gcOnly _=>false | _=>true
def jq:List Edge->List Nat
 | []=>[]
 | e::l=>match D7 e with | true=>e.on::jq l | false=>jq l
def lB (l:List (List Nat)) (j:Nat):List Nat:=match nth l j with | some x=>x | none=>[]
def Bb (acc:List (List Nat)):List Nat->List Nat
 | []=>[]
 | e::l=>Sd e (J1 (lB acc e) (Bb acc l))
def lA:List (List Nat)->List Oper->List (List Nat)
 | acc,[]=>acc
 | acc,o::l=>lA (acc++[Bb acc (jq o.after.toList)]) l
def L4:Nat->List Oper->Bool
 | _,[]=>true
 | i,o::l=>(match o.guard with | some (j,_)=>Nat.blt j i | none=>true)&&L4 (i+1) l
def oA:Nat->List Oper->Bool
 | _,[]=>true
 | j,o::l=>sL j (jq o.after.toList)&&oA (j+1) l
def su (A:List (List Nat)):Nat->List Oper->Bool
 | _,[]=>true
 | i,o::l=>(match o.guard with | some (j,_)=>cg j (lB A i) | none=>true)&&su A (i+1) l
def gw (A:List (List Nat)):Nat->List Fp->List Fp->Bool
 | _,_,[]=>true
 | j,done,x::l=>go (lB A j) 0 done x&&gw A (j+1) (done++[x]) l
 where go (n:List Nat):Nat->List Fp->Fp->Bool
 | _,[],_=>true
 | i,y::m,x=>(match cg i n with | true=>true | false=>apart y x)&&go n (i+1) m x
def iV:List (Nat×AV)->List (Nat×AV)
 | []=>[]
 | (k,v)::l=>(k,uP v)::iV l
def wO {R:Type} (X:Ctx) (E:Env R) (ops:Array Oper) (draw:Bool) (s:St) (K:St->Option R):Option R :=
 match fv (lb ops.toList)&&(sL X.nt (lb ops.toList)&&(Nat.ble X.nt 1500&&L4 0 ops.toList)) with
 | false=>none
 | true=>gr X E ops draw ops.toList s [] fun s' fp=>match draw with
  | false=>K ⟨iV s'.tm,s'.vs,s'.rs⟩
  | true=>match oA 0 ops.toList&&(su (lA [] ops.toList) 0 ops.toList&&gw (lA [] ops.toList) 0 [] fp) with
   | true=>K ⟨iV s'.tm,s'.vs,s'.rs⟩
   | false=>none
inductive mX | b (x:Bool) | i (k:IntKind) (n:Int) | s (x:ByteArray) | l (τ:Ty) (xs:List (El τ)) | n (x:Nat)
inductive Sh | un | b | i (k:IntKind) | s | nl (τ:Ty) | sw (r:Nat) | sl (r:Nat) | nw (r c:Nat) | ns (r c:Nat) | pv (v c:Nat) | pe (r c:Nat) | pn (r c d:Nat) | fn (f:Nat) (caps:List Nat)
inductive NH | c (x:Sh) | a (l:List Sh) | t (l:List (Bool×List Sh))
structure Sk where
 tm:List (Nat×NH)
 vs:List (Nat×List Sh)
 rs:List (Nat×(Ty×Nat))
def Wg:Cv->Sh×List mX
 | .un=>(.un,[]) | .b x=>(.b,[.b x]) | .i k n=>(.i k,[.i k n]) | .s x=>(.s,[.s x]) | .nl τ=>(.nl τ,[])
 | .sw r=>(.sw r,[]) | .sl r a b=>(.sl r,[.n a,.n b]) | .nw r e c=>(.nw r c,[.n e]) | .ns r e c a b=>(.ns r c,[.n e,.n a,.n b])
 | .pv v c=>(.pv v c,[]) | .pe r e c=>(.pe r c,[.n e]) | .pn r e c k d=>(.pn r c d,[.n e,.n k]) | .fn f caps=>(.fn f caps,[])
def QB:List Cv->List Sh×List mX
 | []=>([],[])
 | x::l=>let (a,v):=Wg x
  let (b,w):=QB l
  (a::b,v++w)
def Ta:List (Bool×List Cv)->List (Bool×List Sh)×List mX
 | []=>([],[])
 | (t,x)::l=>let (a,v):=QB x
  let (b,w):=Ta l
  ((t,a)::b,v++w)
def I4:AV->NH×List mX
 | .c x=>let (a,v):=Wg x
  (.c a,v)
 | .a l=>let (a,v):=QB l
  (.a a,v)
 | .t l=>let (a,v):=Ta l
  (.t a,v)
 | .g .. =>(.c .un,[])
def Gn:List (Nat×AV)->List (Nat×NH)×List mX
 | []=>([],[])
 | (k,x)::l=>let (a,v):=I4 x
  let (b,w):=Gn l
  ((k,a)::b,v++w)
def Hf:List (Nat×List Cv)->List (Nat×List Sh)×List mX
 | []=>([],[])
 | (k,x)::l=>let (a,v):=QB x
  let (b,w):=Hf l
  ((k,a)::b,v++w)
def vD:List (Nat×Row)->List (Nat×(Ty×Nat))×List mX
 | []=>([],[])
 | (k,x)::l=>let (b,w):=vD l
  ((k,(x.τ,x.ow))::b,.l x.τ x.xs::w)
def flat (s:St):Sk×List mX :=
 let (a,v):=Gn s.tm
 let (b,w):=Hf s.vs
 let (c,u):=vD s.rs
 (⟨a,b,c⟩,v++(w++u))
def Y1:Sh->List mX->Option (Cv×List mX)
 | .un,l=>some (.un,l) | .b,.b x::l=>some (.b x,l) | .i _,.i k n::l=>some (.i k n,l) | .s,.s x::l=>some (.s x,l) | .nl τ,l=>some (.nl τ,l)
 | .sw r,l=>some (.sw r,l) | .sl r,.n a:: .n b::l=>some (.sl r a b,l) | .nw r c,.n e::l=>some (.nw r e c,l)
 | .ns r c,.n e:: .n a:: .n b::l=>some (.ns r e c a b,l) | .pv v c,l=>some (.pv v c,l) | .pe r c,.n e::l=>some (.pe r e c,l)
 | .pn r c d,.n e:: .n k::l=>some (.pn r e c k d,l) | .fn f caps,l=>some (.fn f caps,l)
 | _,_=>none
def V6:List Sh->List mX->Option (List Cv×List mX)
 | [],l=>some ([],l)
 | a::b,l=>match Y1 a l with
  | some (x,l)=>match V6 b l with | some (y,l)=>some (x::y,l) | none=>none
  | none=>none
def YZ:List (Bool×List Sh)->List mX->Option (List (Bool×List Cv)×List mX)
 | [],l=>some ([],l)
 | (t,a)::b,l=>match V6 a l with
  | some (x,l)=>match YZ b l with | some (y,l)=>some ((t,x)::y,l) | none=>none
  | none=>none
def Xl:NH->List mX->Option (AV×List mX)
 | .c a,l=>match Y1 a l with | some (x,l)=>some (.c x,l) | none=>none
 | .a a,l=>match V6 a l with | some (x,l)=>some (.a x,l) | none=>none
 | .t a,l=>match YZ a l with | some (x,l)=>some (.t x,l) | none=>none
def RX:List (Nat×NH)->List mX->Option (List (Nat×AV)×List mX)
 | [],l=>some ([],l)
 | (k,a)::b,l=>match Xl a l with
  | some (x,l)=>match RX b l with | some (y,l)=>some ((k,x)::y,l) | none=>none
  | none=>none
def Ss:List (Nat×List Sh)->List mX->Option (List (Nat×List Cv)×List mX)
 | [],l=>some ([],l)
 | (k,a)::b,l=>match V6 a l with
  | some (x,l)=>match Ss b l with | some (y,l)=>some ((k,x)::y,l) | none=>none
  | none=>none
def Sv:List (Nat×(Ty×Nat))->List mX->Option (List (Nat×Row))
 | [],[]=>some []
 | (k,(_,ow))::b,.l τ xs::l=>match Sv b l with | some y=>some ((k,⟨τ,xs,ow⟩)::y) | none=>none
 | _,_=>none
def AE (k:Sk) (l:List mX):Option St :=
 match RX k.tm l with
 | none=>none
 | some (a,l)=>match Ss k.vs l with
  | none=>none
  | some (b,l)=>match Sv k.rs l with
   | none=>none
   | some c=>some ⟨a,b,c⟩
def D5:List Nat->List Nat->Bool
 | [],[]=>true
 | a::l,b::m=>Nat.beq a b&&D5 l m
 | _,_=>false
def RP:Sh->Sh->Bool
 | .un,.un | .b,.b | .s,.s=>true
 | .i a,.i b=>Fy a b
 | .nl a,.nl b=>Ln a b
 | .sw a,.sw b | .sl a,.sl b=>Nat.beq a b
 | .nw a b,.nw c d | .ns a b,.ns c d | .pv a b,.pv c d | .pe a b,.pe c d=>Nat.beq a c&&Nat.beq b d
 | .pn a b c,.pn d e f=>Nat.beq a d&&(Nat.beq b e&&Nat.beq c f)
 | .fn a l,.fn b m=>Nat.beq a b&&D5 l m
 | _,_=>false
def Tc:List Sh->List Sh->Bool
 | [],[]=>true
 | a::l,b::m=>RP a b&&Tc l m
 | _,_=>false
def LK:List (Bool×List Sh)->List (Bool×List Sh)->Bool
 | [],[]=>true
 | (x,a)::l,(y,b)::m=>(match x,y with | true,true | false,false=>true | _,_=>false)&&(Tc a b&&LK l m)
 | _,_=>false
def NC:NH->NH->Bool
 | .c a,.c b=>RP a b
 | .a a,.a b=>Tc a b
 | .t a,.t b=>LK a b
 | _,_=>false
def Mk:List (Nat×NH)->List (Nat×NH)->Bool
 | [],[]=>true
 | (x,a)::l,(y,b)::m=>Nat.beq x y&&(NC a b&&Mk l m)
 | _,_=>false
def LO:List (Nat×List Sh)->List (Nat×List Sh)->Bool
 | [],[]=>true
 | (x,a)::l,(y,b)::m=>Nat.beq x y&&(Tc a b&&LO l m)
 | _,_=>false
def xN:List (Nat×(Ty×Nat))->List (Nat×(Ty×Nat))->Bool
 | [],[]=>true
 | (x,(a,b))::l,(y,(c,d))::m=>Nat.beq x y&&(Ln a c&&((nF d b&&(match d with | 1=>Nat.beq b 1||(Nat.blt x 100000||Nat.ble 400000 x) | _=>true))&&xN l m))
 | _,_=>false
def Hm (a b:Sk):Bool:=Mk a.tm b.tm&&(LO a.vs b.vs&&xN a.rs b.rs)
def oN:List Cv->List Nat->List Nat
 | [],acc=>acc
 | x::l,acc=>match x.row with
  | some r=>match mZ r 0 acc with
   | some _=>oN l acc
   | none=>oN l (acc++[r])
  | none=>oN l acc
def Bj:List Nat->List Nat->Bool
 | [],_=>true
 | x::l,m=>match mZ x 0 m with | some _=>Bj l m | none=>false
def UB (ρ:List (Nat×Nat)) (vk:List Nat) (x:Cv):Cv:=match x with
 | .sw r=>match lk ρ r with | some k=> .sw k | none=> .un
 | .sl r a b=>match lk ρ r with | some k=> .sl k a b | none=> .un
 | .nw r a b=>match lk ρ r with | some k=> .nw k a b | none=> .un
 | .ns r a b c d=>match lk ρ r with | some k=> .ns k a b c d | none=> .un
 | .pe r a b=>match lk ρ r with | some k=> .pe k a b | none=> .un
 | .pn r a b c d=>match lk ρ r with | some k=> .pn k a b c d | none=> .un
 | .pv v _=>match mZ v 0 vk with | some _=>x | none=> .un
 | .fn _ caps=>match Bj caps vk with | true=>x | false=> .un
 | x=>x
def uE (r:Nat) (row:Row):Bool:=match Nat.ble 100000 r,Nat.ble r 299999,Nat.ble r 399999,row.ow with
 | true,false,true,1=>true
 | true,true,_,1=>false
 | true,true,_,3=>false
 | true,true,_,_=>true
 | _,_,_,_=>false
def Lk.MF (m:Lk) (k:Nat) (x:Cv):Cv×List (Nat×Row):=match x with
 | .nl τ=>(.sw k,[(k,⟨τ,[],5⟩)])
 | .sw r=>match m.r r with
  | some row=>match uE r row,row.ow with
   | false,1=>(.sw k,[(k,row)])
   | false,3=>(.sw k,[(k,row)])
   | _,_=>(x,[])
  | none=>(x,[])
 | .sl .. | .nw .. | .ns .. =>match m.LG x,(m.vw x).ct with
  | true,some (.l τ ys)=>(.sw k,[(k,⟨τ,ys,match x.row with | some r=>(match m.r r with | some row=>row.ow | none=>1) | none=>1⟩)])
  | _,_=>(x,[])
 | x=>(x,[])
def Lk.NY (m:Lk):Nat->List Cv->List Cv×List (Nat×Row)
 | _,[]=>([],[])
 | k,x::l=>match m.MF k x,m.NY (k+1) l with
  | (y,r),(cs,rs)=>(y::cs,r++rs)
def Lk.n7 (m:Lk):Nat->List (Nat×AV)->List (Nat×AV)×List (Nat×Row)
 | _,[]=>([],[])
 | k,(t,.c x)::l=>match m.MF k x,m.n7 (k+64) l with
  | (y,r),(n,rs)=>((t,.c y)::n,r++rs)
 | k,(t,.a x)::l=>match m.NY k x,m.n7 (k+64) l with
  | (y,r),(n,rs)=>((t,.a y)::n,r++rs)
 | k,p::l=>match m.n7 (k+64) l with | (n,rs)=>(p::n,rs)
def Lk.EB (m:Lk):Nat->List (Nat×List Cv)->List (Nat×List Cv)×List (Nat×Row)
 | _,[]=>([],[])
 | k,(v,x)::l=>match m.NY k x,m.EB (k+64) l with
  | (y,r),(n,rs)=>((v,y)::n,r++rs)
def DN (s:St):List Nat->List (Nat×AV)
 | []=>[]
 | t::l=>(t,uP (s.get t))::DN s l
def vg (vs:List (Nat×List Cv)):List Nat->List (Nat×List Cv)
 | []=>[]
 | v::l=>match lk vs v with | some cs=>(v,cs)::vg vs l | none=>vg vs l
def pY (rs:List (Nat×Row)):Nat->List Nat->List (Nat×Nat)
 | _,[]=>[]
 | k,r::l=>match lk rs r with
  | some row=>(r,match uE r row with | true=>r | false=>500000+k)::pY rs (k+1) l
  | none=>pY rs (k+1) l
def pF (rs:List (Nat×Row)):List (Nat×Nat)->List (Nat×Row)
 | []=>[]
 | (r,k)::l=>match lk rs r with
  | some row=>(k,row)::pF rs l
  | none=>pF rs l
def RD:List (Nat×AV)->List Cv
 | []=>[]
 | (_,v)::l=>v.CJ++RD l
def BE (f:Cv->Cv):List (Nat×AV)->List (Nat×AV)
 | []=>[]
 | (k,v)::l=>(k,ky f v)::BE f l
def Aw (f:Cv->Cv):List (Nat×List Cv)->List (Nat×List Cv)
 | []=>[]
 | (k,v)::l=>(k,rW f v)::Aw f l
def freeze (fz:List Nat):List (Nat×Row)->List (Nat×Row)
 | []=>[]
 | (k,row)::l=>match cg k fz&&(Nat.ble 1 row.ow&&Nat.ble row.ow 5),Nat.ble 300000 k&&(Nat.ble k 399999&&Nat.beq row.ow 2) with
  | true,false=>(k,{ row with ow:=Pk row.ow })::freeze fz l
  | _,_=>(k,row)::freeze fz l
def E0:List (Nat×Row)->Bool
 | []=>true
 | (_,row)::l=>(Nat.ble 1 row.ow&&Nat.ble row.ow 5)&&E0 l
def St.freeze (s:St) (fz:List Nat):St:=match fz with
 | []=>s
 | _=>{ s with rs:=Soft.freeze (I2 (rW s.get fz)) s.rs }
def St.prune (s:St) (ts vk:List Nat):St :=
 match s.lk.n7 600000 (DN s ts),s.lk.EB 700000 (vg s.vs vk) with
 | (tm,r1),(vs,r2)=>match fv (keys (r1++r2))&&(jx (keys (r1++r2)) (keys s.rs)&&E0 s.rs) with
  | false=>⟨[],[],[]⟩
  | true =>
   let rs:=r1++(r2++s.rs)
   let ρ:=pY rs 0 (oN (vcs vs) (oN (RD tm) []))
   ⟨BE (UB ρ (keys vs)) tm,Aw (UB ρ (keys vs)) vs,pF rs ρ⟩
structure Wc where
 ts:List Nat
 vk:List Nat
 sk:List Sk
 out:List (Nat×(List Nat×List Nat))
 fz:List Nat
abbrev Live:=List (Nat×Wc)
def Ex.num:Ex->Nat
 | .normal=>0 | .ret=>0 | .exit i=>i+1
def Wc.leave (A:Wc) (e:Ex) (s:St):St:=match lk A.out e.num with
 | some (ts,vk)=>s.prune ts vk
 | none=>s
def dG:Code->Nat
 | .region id _ _=>id
 | .seq a _=>dG a
 | .block _ c=>dG c
 | .loop c=>dG c
 | _=>0
abbrev Loop (R:Type):=Nat->Nat->List mX->(Ex->St->Option R)->Option R
def Ak (k:Sk):Nat->List Sk->Option Nat
 | _,[]=>none
 | i,s::l=>match Hm k s with | true=>some i | false=>Ak k (i+1) l
def exec {R:Type} (X:Ctx) (E:Env R) (L:Live) (lp:Loop R):Code->St->(Ex->St->Option R)->Option R
 | .skip,s,K=>K .normal s
 | .region _ ops draw,s,K=>wO X E ops draw s (K .normal)
 | .seq a b,s,K=>exec X E L lp a s fun e s'=>match e with
  | .normal=>exec X E L lp b s' K
  | e=>K e s'
 | .cond c a b,s,K=>match X.xV s [] 0 c with
  | .c (.b x)=>bif x then exec X E L lp a s K else exec X E L lp b s K
  | _=>none
 | .block id c,s,K=>exec X E L lp c s fun e s'=>match e with
  | .exit i=>match Nat.beq i id with
   | true=>K .normal s'
   | false=>K e s'
  | e=>K e s'
 | .loop c,s,K=>match lk L (dG c) with
  | none=>none
  | some A=>match flat ((s.freeze A.fz).prune A.ts A.vk) with
   | (k,l)=>match Ak k 0 A.sk with
    | some i=>lp (dG c) i l K
    | none=>none
 | .exit id,s,K=>K (.exit id) s
 | .ret,s,K=>K .ret s
 | _,_,_=>none
def round {R:Type} (X:Ctx) (E:Env R) (L:Live) (lp:Loop R) (c:Code) (i:Nat) (l:List mX) (K:Ex->St->Option R):Option R :=
 match lk L (dG c) with
 | none=>none
 | some A=>match (match nth A.sk i with | some k=>AE k l | none=>none) with
  | none=>none
  | some s=>exec X E L lp c s fun e s'=>match e with
   | .normal=>exec X E L lp (.loop c) s' K
   | e=>K e (A.leave e s')
def kd (w m:Nat):Nat:=match w with | 0=>(match m with | 0=>1 | m=>m) | w=>w
def oa (k:Nat) (w:Nat) (ms:List Nat):Nat->List Ct->List Cv×List (Nat×Row)
 | _,[]=>([],[])
 | j,y::ys=>match oa k w (tl ms) (j+1) ys with
  | (cs,rs)=>match y with
   | .u=>(.un::cs,rs) | .b x=>(.b x::cs,rs) | .i a n=>(.i a n::cs,rs) | .s x=>(.s x::cs,rs)
   | .l τ xs=>(.sw (k+j)::cs,(k+j,⟨τ,xs,kd w (hd ms)⟩)::rs)
def rX (am:List Nat):Nat->List AC->List AV×List (Nat×Row)
 | _,[]=>([],[])
 | p,x::l=>match rX (tl am) (p+1) l with
  | (vs,rs) =>
   let w:Nat:=kd 0 (hd am)
   match x with
   | .c y=>match oa (100000+p*64) w [] 0 [y] with
    | ([c],r)=>(.c c::vs,r++rs)
    | _=>(.c .un::vs,rs)
   | .a ys=>match oa (100000+p*64) w [] 0 ys with
    | (cs,r)=>(.a cs::vs,r++rs)
   | .p k=>(.c (.pv k 0)::vs,rs)
   | .f g ks=>(.c (.fn g ks)::vs,rs)
   | .al k c=>(.c (.sw (300000+k*64+c))::vs,rs)
   | .io τ xs=>(.c (.sw (200000+p*64))::vs,(200000+p*64,⟨τ,xs,5⟩)::rs)
def BL:Nat->List (List Nat)->List (List Ct)->List (Nat×List Cv)×List (Nat×Row)
 | _,_,[]=>([],[])
 | k,ms,l::cH=>match BL (k+1) (tl ms) cH,oa (300000+k*64) 0 (nJ ms) 0 l with
  | (vs,rs),(cs,r)=>((k,cs)::vs,r++rs)
def H6:Nat->List AV->List (Nat×AV)
 | _,[]=>[]
 | n,v::l=>(n,v)::H6 (n+1) l
def entry (g:ub) (cf:List AC) (cH:List (List Ct)):St :=
 match rX g.am 0 cf,BL 0 g.vl cH with
 | (as,rs),(vs,rs')=>⟨H6 0 as,vs,rs++rs'⟩
def QU (r:Nat):Option (Nat×Nat):=match Nat.ble 100000 r,Nat.ble r 199999 with
 | true,true=>some ((r-100000)/64,(r-100000) % 64)
 | _,_=>none
def Lk.OY (m:Lk) (r:Nat):Bool:=match m.r r with | some row=>Nat.beq row.ow 1 | none=>false
def Cp:List Nat->List Cv->List Nat
 | _,[]=>[]
 | ms,x::l=>(match hd ms with | 1=>x.rk | _=>[])++Cp (tl ms) l
def OR:List (List Nat)->List (Bool×List Cv)->List Nat
 | _,[]=>[]
 | ms,(_,x)::l=>Cp (nJ ms) x++OR (tl ms) l
def Lk.We (m:Lk) (rl:List (List Nat)):AV->List Nat
 | .c x=>match x with
  | .pv v _=>match m.v v with | some cs=>Cp (nJ rl) cs | none=>[]
  | x=>Cp (nJ rl) [x]
 | .a l=>Cp (nJ rl) l
 | .t l=>OR rl l
 | .g .. =>[]
def YW (off w:Nat):Bool:=match off with | 0=>rT w | _=>Nat.beq w 3
def Lk.uy (m:Lk) (w:Nat) (x:Cv):Option (Rc×List Nat):=match x with
 | .b y=>some (.c (.b y),[]) | .i k n=>some (.c (.i k n),[]) | .s y=>some (.c (.s y),[])
 | .un=>match w with
  | 7=>some (.un,[])
  | _=>none
 | .nl τ=>match w with
  | 1=>some (.m (.l τ []),[])
  | 7=>some (.un,[])
  | 6=>some (.c (.l τ []),[])
  | w=>match rT w with | true=>some (.c (.l τ []),[]) | false=>none
 | x=>match w with
  | 1=>match (m.vw x).ct with | some y=>some (.m y,[]) | none=>none
  | 7=>some (.un,[])
  | 6=>match x with
   | .sw r=>match QU r,m.OY r with | some (p,j),true=>some (.aw p j,[]) | _,_=>none
   | .nw r e c=>match QU r,m.OY r with | some (p,j),true=>some (.al p j e c,[]) | _,_=>none
   | _=>none
  | w=>match x with
   | .sw r=>match m.r r with
    | some row=>match rT w,nF w row.ow with
     | true,true=>some (.c (.l row.τ row.xs),[r])
     | _,_=>none
    | none=>none
   | .sl r off len=>match m.r r with
    | some row=>match YW off w,nF w row.ow with
     | true,true=>some (.c (.l row.τ (sub row.xs off len)),[r])
     | _,_=>none
    | none=>none
   | _=>none
def Lk.uD (m:Lk):List Nat->List Cv->Option (List Rc×List Nat)
 | _,[]=>some ([],[])
 | ms,x::l=>match m.uy (hd ms) x,m.uD (tl ms) l with
  | some (y,a),some (ys,b)=>some (y::ys,a++b)
  | _,_=>none
def Lk.Dk (m:Lk):List (List Nat)->List (Bool×List Cv)->Option (List (Bool×List Rc)×List Nat)
 | _,[]=>some ([],[])
 | ms,(b,x)::l=>match m.uD (nJ ms) x,m.Dk (tl ms) l with
  | some (y,a),some (ys,c)=>some ((b,y)::ys,a++c)
  | _,_=>none
def Lk.Lu (m:Lk) (rl:List (List Nat)):AV->Option (RC×List Nat)
 | .c x=>match x with
  | .pv v c=>match Nat.ble 1000 v,Nat.beq c 0,m.v v with
   | true,true,some cs=>match m.uD (nJ rl) cs with | some (y,a)=>some (.np y,a) | none=>none
   | _,_,_=>none
  | .un=>none
  | x=>match m.uy (hd (nJ rl)) x with | some (y,a)=>some (.c y,a) | none=>none
 | .a l=>match m.uD (nJ rl) l with | some (y,a)=>some (.a y,a) | none=>none
 | .t l=>match l with
  | []=>some (.u,[])
  | _=>match m.Dk rl l with | some (y,a)=>some (.t y,a) | none=>none
 | .g .. =>none
def Lk.Mx (m:Lk) (k:Nat):Nat->List Nat->List Cv->Option (List Ct×List Nat)
 | _,_,[]=>some ([],[])
 | j,ms,x::l=>match m.Mx k (j+1) (tl ms) l with
  | none=>none
  | some (ys,a')=>match hd ms with
   | 0=>match x with
    | .b y=>some (.b y::ys,a') | .i k n=>some (.i k n::ys,a') | .s y=>some (.s y::ys,a')
    | _=>none
   | 1=>match x with
    | .sw r=>match Nat.beq r (300000+k*64+j)&&(Nat.ble r 399999&&m.OY r),m.ct x with
     | true,some y=>some (y::ys,a')
     | _,_=>none
    | _=>none
   | w=>match x with
    | .nl τ=>match rT w with | true=>some (.l τ []::ys,a') | false=>none
    | .sw r=>match m.r r with
     | some row=>match rT w,nF w row.ow with
      | true,true=>some (.l row.τ row.xs::ys,r::a')
      | _,_=>none
     | none=>none
    | _=>none
def Lk.CX (m:Lk):Nat->List (List Nat)->Option (List (List Ct)×List Nat)
 | _,[]=>some ([],[])
 | k,w::ms=>match m.v k,m.CX (k+1) ms with
  | some cs,some (ys,a')=>match m.Mx k 0 w cs with
   | some (y,a)=>some (y::ys,a++a')
   | none=>none
  | _,_=>none
def Lk.yN (m:Lk):Nat->List AC->Option (List Ct×List Nat)
 | _,[]=>some ([],[])
 | p,.io τ _::l=>match m.r (200000+p*64),m.yN (p+1) l with
  | some row,some (ys,a)=>match Nat.beq row.ow 5&&Nat.ble p 1500,Ln row.τ τ with
   | true,true=>some (.l row.τ row.xs::ys,(200000+p*64)::a)
   | _,_=>none
  | _,_=>none
 | p,_::l=>m.yN (p+1) l
def Aj (X:Ctx) (s:St):ResultVar->Option AV
 | .tmp t=>some (s.get t)
 | .cell t T=>match s.get t with
  | .c a=>match s.lk.from a with
   | some cs=>match Nat.ble (fS X.P T) cs.length&&CH X.P T with
    | true=>some (UN (Az X.P T) (cs.take (fS X.P T)))
    | false=>none
   | none=>none
  | _=>none
def tj (X:Ctx) (s:St):List ResultVar->Option (List (Bool×List Cv))
 | []=>some []
 | r::l=>match Aj X s r,tj X s l with
  | some (.c .un),_=>none
  | some (.c x),some m=>some ((false,[x])::m)
  | some (.a x),some m=>some ((true,x)::m)
  | _,_=>none
def Jj (X:Ctx) (s:St):List ResultVar->Option AV
 | [r]=>Aj X s r
 | l=>match tj X s l with | some m=>some (.t m) | none=>none
def St.out (X:Ctx) (g:ub) (cf:List AC) (f:Func) (s:St):Option CR :=
 match Jj X s f.results.toList with
 | none=>none
 | some v=>match s.lk.Lu g.rl v,s.lk.CX 0 g.vl,s.lk.yN 0 cf with
  | some (rc,a),some (vo,b),some (io,c)=>match fv (a++(b++c))&&(jx (s.lk.We g.rl v) (a++(b++c))&&Nat.ble g.vl.length 1000) with
   | true=>some ⟨rc,vo,io⟩
   | false=>none
  | _,_,_=>none
def Dj {R:Type} (X:Ctx) (E:Env R) (L:Live) (lp:Loop R) (g:ub) (f:Func) (cf:List AC) (cH:List (List Ct)) (k:CR->Option R):Option R :=
 match f.body with
 | none=>none
 | some c=>exec (X.at f) E L lp c (entry g cf cH) fun e s=>match e with
  | .exit _=>none
  | _=>match s.out X g cf f with | some r=>k r | none=>none
def getLoop (n:Nat):Code->Option Code
 | .loop c=>match Nat.beq (dG c) n with | true=>some c | false=>getLoop n c
 | .seq a b=>match getLoop n a with | some c=>some c | none=>getLoop n b
 | .cond _ a b=>match getLoop n a with | some c=>some c | none=>getLoop n b
 | .block _ a=>getLoop n a
 | _=>none
end Go.Soft
namespace Go.Soft
open Go
theorem NU {α β:Type} (f:α->β) (l:List (Nat×α)) (n:Nat):lk (l.map fun p=>(p.1,f p.2)) n=(lk l n).map f:=by
 induction l with
 | nil=>rfl
 | cons p l ih=>obtain ⟨k,v⟩:=p; simp only [List.map_cons,lk]; cases h:Nat.beq k n<;>simp [ih]
theorem ic {α:Type} (l:List α) (n:Nat):nth l n=l[n]? :=by
 induction l generalizing n with
 | nil=>cases n<;>rfl
 | cons x l ih=>cases n with
  | zero=>rfl
  | succ n=>simpa [nth] using ih n
theorem bd (τ:Ty) (x:El τ):(cells τ x).length=sz τ:=by cases τ<;>rfl
theorem oz (τ:Ty):0<sz τ:=by cases τ<;>decide
theorem oM {τ:Ty} (h:τ.deep=false) (x:El τ) (ct:Ct) (hc:ct∈cells τ x):∀ σ ys,ct≠ .l σ ys:=by
 intro σ ys e; subst e; cases τ<;>simp_all [cells,Ty.deep]
theorem ye {τ:Ty} (x:El τ):Ct.u∉cells τ x:=by cases τ<;>simp [cells]
theorem Ax {τ:Ty} (x:El τ) (σ:Ty) (ys:List (El σ)) (hc:Ct.l σ ys∈cells τ x):σ.deep=false:=by
 cases τ<;>simp [cells] at hc<;>obtain ⟨rfl,_⟩:=hc<;>rfl
inductive Ow | v (k:Nat) | r (k:Nat) | n (r e c:Nat) | fz | x deriving DecidableEq
abbrev OM:=Nat->Option Ow
structure Gh where
 O:OM
 rv:Nat->Value
 cv:Nat->List Value
 vb:Nat->Nat
inductive Ep | mT | fz | own (t:Ow)
def In:Ep->Option Ow->Prop
 | .mT,o=>o=none\/o=some .fz
 | .fz,o=>o=some .fz
 | .own t,o=>o=some t
def zz (A:Nat->Prop) (w:World) (z:Nat) (v:Value) (n:Nat) (cs:List Value):Prop :=
 cs.length=n*z/\((v= .slice none 0 0/\n=0) \/
  ∃ g off cap cur e fz,v= .slice (some ⟨g,off,none⟩) n cap/\w.heap[g]? =some (.cells cur e fz)/\A g/\n<=cap/\off+n*z<=cur.size/\(cur.toList.drop off).take (n*z)=cs)
def Sl (X:Ctx) (O:OM) (w:World) (c:Ep) (τ:Ty) (v:Value) (n:Nat) (cs:List Value):Prop:=match c with
 | .own t=>w.ownsRow 0 (X.id τ) (sz τ) v n cs/\∀ g,v.ownBlock=some g->O g=some t
 | c=>zz (fun g=>In c (O g)) w (sz τ) v n cs
theorem zz.mono {A B:Nat->Prop} {w w':World} {z:Nat} {v:Value} {n:Nat} {cs:List Value} (h:zz A w z v n cs)
  (tt:∀ g o,w.heap[g]? =some o->A g->w'.heap[g]? =some o/\B g):zz B w' z v n cs:=by
 refine ⟨h.1,?_⟩
 rcases h.2 with hn | ⟨g,off,cap,cur,e,fz,hv,hg,ha,hr⟩
 ·exact .inl hn
 ·exact .inr ⟨g,off,cap,cur,e,fz,hv,(tt g _ hg ha).1,(tt g _ hg ha).2,hr⟩
theorem G0 {w:World} {base:Nat} {e:TypeId} {z:Nat} {v:Value} {n:Nat} {cs:List Value} {A:Nat->Prop} (h:w.ownsRow base e z v n cs)
  (ha:∀ g,v.ownBlock=some g->A g):zz A w z v n cs:=by
 refine ⟨h.1,?_⟩
 rcases h.2 with hn | ⟨g,cap,cur,hv,_,hg,HM,_,hs,ht⟩
 ·exact .inl hn
 ·refine .inr ⟨g,0,cap,cur,e,(0,0),hv,hg,ha g (by simp [hv,Value.ownBlock]),HM,?_,by simpa using ht⟩
  rw [hs,Nat.zero_add]; exact zP _ HM
theorem Sl.zb {X:Ctx} {O:OM} {w:World} {c:Ep} {τ:Ty} {v:Value} {n:Nat} {cs:List Value} (h:Sl X O w c τ v n cs):zz (fun g=>In c (O g)) w (sz τ) v n cs:=by
 cases c with
 | own t=>exact G0 h.1 h.2
 | _=>exact h
def Ep.pc:Ep->Bool
 | .own _=>true
 | _=>false
theorem Sl.re {X:Ctx} {O O':OM} {w w':World} {c c':Ep} {τ:Ty} {v:Value} {n:Nat} {cs:List Value} (h:Sl X O w c τ v n cs)
  (tt:∀ g o,w.heap[g]? =some o->In c (O g)->w'.heap[g]? =some o/\In c' (O' g)) (hc:c'.pc=true->c.pc=true):Sl X O' w' c' τ v n cs:=by
 cases c' with
 | own t =>
  cases c with
  | own s =>
   obtain ⟨hr,ho⟩:=h
   refine ⟨⟨hr.1,?_⟩,fun g hg=> ?_⟩
   ·rcases hr.2 with hn | ⟨g,cap,cur,hv,hb,hg,rest⟩
    ·exact .inl hn
    ·exact .inr ⟨g,cap,cur,hv,hb,(tt g _ hg (ho g (by simp [hv,Value.ownBlock]))).1,rest⟩
   ·rcases hr.2 with ⟨hn,_⟩ | ⟨g',cap,cur,hv,hb,sa,rest⟩
    ·simp [hn,Value.ownBlock] at hg
    ·have:g=g':=by simpa [hv,Value.ownBlock] using hg.symm
     subst this
     exact (tt g _ sa (ho g hg)).2
  | _=>simp [Ep.pc] at hc
 | _=>exact h.zb.mono tt
def gu:Ct->Value
 | .b x=> .bool x | .i k n=> .int k n | .s x=> .string x | _=> .slice none 0 0
def fW (τ:Ty) (ys:List (El τ)):List Value:=ys.flatMap fun y=>(cells τ y).map gu
def fU (X:Ctx) (O:OM) (w:World) (c:Ep):Ct->Value->Prop
 | .u,_=>False
 | .l τ ys,v=>τ.deep=false/\Sl X O w c τ v ys.length (fW τ ys)
 | x,v=>v=gu x
def dO (k ow:Nat):Ep:=match ej ow with | true=> .own (.r k) | false=>match ow with | 3=> .fz | _=> .mT
def dR (k e c ow:Nat):Ep:=match ow with | 5=> .own (.n k e c) | 4=> .fz | 3=> .fz | _=> .mT
structure cP (X:Ctx) (O:OM) (w:World) (k:Nat) (row:Row) (v:Value) (cs:List Value):Prop where
 top:Sl X O w (dO k row.ow) row.τ v row.xs.length cs
 rG:∀ e c ct,e<row.xs.length->(row.cs e)[c]? =some ct->∃ u,cs[e*sz row.τ+c]? =some u/\fU X O w (dR k e c row.ow) ct u
theorem fU.re {X:Ctx} {O O':OM} {w w':World} {c c':Ep} {ct:Ct} {v:Value} (h:fU X O w c ct v)
  (tt:∀ g o,w.heap[g]? =some o->In c (O g)->w'.heap[g]? =some o/\In c' (O' g)) (hc:c'.pc=true->c.pc=true):fU X O' w' c' ct v:=by
 cases ct with
 | u=>exact h
 | l τ ys=>exact ⟨h.1,h.2.re tt hc⟩
 | _=>exact h
theorem Q9 {d a:Nat} (h:nF d a=true) (k k':Nat):(dO k' d).pc=true->(dO k a).pc=true:=by
 intro hd
 have h1:ej d=true:=by
  cases hk:ej d with
  | true=>rfl
  | false =>
   exfalso; revert hd; simp only [dO,hk]
   intro hd; revert hd; split<;>simp_all [Ep.pc]
   all_goals (rename_i h; revert h; split<;>simp)
 have h2:ej a=true:=by
  rcases d with _|_|_|_|_|_|d<;>simp_all [ej,nF]<;>(revert h; split<;>simp_all [ej])
 simp [dO,h2,Ep.pc]
theorem D4 {d a:Nat} (h:nF d a=true) (k k' e c:Nat):(dR k' e c d).pc=true->(dR k e c a).pc=true:=by
 intro hd
 have h1:d=5:=by
  revert hd; simp only [dR]; split<;>simp [Ep.pc]
 subst h1
 have h2:a=5:=by revert h; simp only [nF]; split<;>simp_all
 subst h2; rfl
theorem cP.re {X:Ctx} {O O':OM} {w w':World} {k k' dM:Nat} {row:Row} {v:Value} {cs:List Value} (h:cP X O w k row v cs) (hle:nF dM row.ow=true)
  (cm:∀ g o,w.heap[g]? =some o->In (dO k row.ow) (O g)->w'.heap[g]? =some o/\In (dO k' dM) (O' g))
  (abY:∀ e c g o,w.heap[g]? =some o->In (dR k e c row.ow) (O g)->w'.heap[g]? =some o/\In (dR k' e c dM) (O' g)):cP X O' w' k' { row with ow:=dM } v cs :=
 ⟨h.top.re cm (Q9 hle k k'),fun e c ct he de=>let ⟨u,hu,hr⟩:=h.rG e c ct he de; ⟨u,hu,hr.re (abY e c) (D4 hle k k' e c)⟩⟩
theorem NX {a:Nat} (h:a=1\/a=2\/a=3\/a=4\/a=5):nF a a=true:=by rcases h with rfl | rfl | rfl | rfl | rfl<;>rfl
def BQ (A:Nat->Prop) (w:World):Ct->Value->Prop
 | .u,_=>False
 | .l τ ys,v=>τ.deep=false/\zz A w (sz τ) v ys.length (fW τ ys)
 | x,v=>v=gu x
structure vO (A:Nat->Prop) (w:World) (τ:Ty) (xs:List (El τ)) (v:Value) (cs:List Value):Prop where
 top:zz A w (sz τ) v xs.length cs
 rG:∀ e c ct,e<xs.length->(cells τ (xs.getD e (ch τ)))[c]? =some ct->∃ u,cs[e*sz τ+c]? =some u/\BQ A w ct u
def CtV (A:Nat->Prop) (w:World):Ct->Value->Prop
 | .u,_=>True
 | .l τ xs,v=>∃ cs,vO A w τ xs v cs
 | x,v=>v=gu x
theorem BQ.mono {A B:Nat->Prop} {w w':World} {ct:Ct} {v:Value} (h:BQ A w ct v) (tt:∀ g o,w.heap[g]? =some o->A g->w'.heap[g]? =some o/\B g):BQ B w' ct v:=by
 cases ct with
 | u=>exact h
 | l τ ys=>exact ⟨h.1,h.2.mono tt⟩
 | _=>exact h
theorem vO.mono {A B:Nat->Prop} {w w':World} {τ:Ty} {xs:List (El τ)} {v:Value} {cs:List Value} (h:vO A w τ xs v cs)
  (tt:∀ g o,w.heap[g]? =some o->A g->w'.heap[g]? =some o/\B g):vO B w' τ xs v cs :=
 ⟨h.top.mono tt,fun e c ct he hc=>let ⟨u,hu,hr⟩:=h.rG e c ct he hc; ⟨u,hu,hr.mono tt⟩⟩
def MA (k:Nat) (o:Option Ow):Prop:=o=none\/o=some .fz\/o=some (.r k)\/∃ e c,o=some (.n k e c)
theorem ES {k ow:Nat} {o:Option Ow} (h:In (dO k ow) o):MA k o:=by
 revert h; simp only [dO]; split
 ·exact fun h=> .inr (.inr (.inl h))
 ·split
  ·exact fun h=> .inr (.inl h)
  ·exact fun h=>h.elim .inl (fun h=> .inr (.inl h))
theorem J9 {k e c ow:Nat} {o:Option Ow} (h:In (dR k e c ow) o):MA k o:=by
 revert h; simp only [dR]; split
 ·exact fun h=> .inr (.inr (.inr ⟨e,c,h⟩))
 ·exact fun h=> .inr (.inl h)
 ·exact fun h=> .inr (.inl h)
 ·exact fun h=>h.elim .inl (fun h=> .inr (.inl h))
theorem fU.Xx {X:Ctx} {O:OM} {w:World} {c:Ep} {ct:Ct} {v:Value} {A:Nat->Prop} (h:fU X O w c ct v) (ha:∀ g,In c (O g)->A g):BQ A w ct v:=by
 cases ct with
 | u=>exact h
 | l τ ys=>exact ⟨h.1,h.2.zb.mono fun g o hg hi=>⟨hg,ha g hi⟩⟩
 | _=>exact h
theorem cP.Xx {X:Ctx} {O:OM} {w:World} {k:Nat} {row:Row} {v:Value} {cs:List Value} (h:cP X O w k row v cs) {A:Nat->Prop} (ha:∀ g,MA k (O g)->A g):vO A w row.τ row.xs v cs :=
 ⟨h.top.zb.mono fun g o hg hi=>⟨hg,ha g (ES hi)⟩,fun e c ct he hc=>let ⟨u,hu,hr⟩:=h.rG e c ct he hc; ⟨u,hu,hr.Xx fun g hi=>ha g (J9 hi)⟩⟩
theorem vO.H3 {X:Ctx} {O:OM} {w:World} {k:Nat} {τ:Ty} {xs:List (El τ)} {v:Value} {cs:List Value} (h:vO (fun g=>In .mT (O g)) w τ xs v cs):cP X O w k ⟨τ,xs,1⟩ v cs:=by
 refine ⟨h.top,fun e c ct he hc=> ?_⟩
 obtain ⟨u,hu,hr⟩:=h.rG e c ct he hc
 refine ⟨u,hu,?_⟩
 cases ct with
 | u=>exact hr
 | l σ ys=>exact hr
 | _=>exact hr
theorem vO.Xf {X:Ctx} {O:OM} {w:World} {k:Nat} {τ:Ty} {xs:List (El τ)} {v:Value} {cs:List Value} (h:vO (fun g=>In .fz (O g)) w τ xs v cs):cP X O w k ⟨τ,xs,3⟩ v cs:=by
 refine ⟨h.top,fun e c ct he hc=> ?_⟩
 obtain ⟨u,hu,hr⟩:=h.rG e c ct he hc
 refine ⟨u,hu,?_⟩
 cases ct with
 | u=>exact hr
 | l σ ys=>exact hr
 | _=>exact hr
def AN (z:Nat) (b:Value) (off len:Nat) (v:Value):Prop :=
 (b= .slice none 0 0/\v= .slice none 0 0/\len=0) \/
 ∃ g o n cap o' cap',b= .slice (some ⟨g,o,none⟩) n cap/\v= .slice (some ⟨g,o',none⟩) len cap'/\(len<=cap'/\cap'=cap-off)/\o<=o'/\o'<=o+off*z/\(len=0\/o'=o+off*z)
theorem kG {α:Type} (xs:List α) {off len:Nat} (h:off+len<=xs.length):(sub xs off len).length=len:=by
 simp [sub]; omega
theorem sR {α:Type} (xs:List α) {off len e:Nat} (d:α) (he:e<len):(sub xs off len).getD e d=xs.getD (off+e) d:=by
 simp [sub,List.getD,List.getElem?_take,he]
theorem zz.sub {A:Nat->Prop} {w:World} {z:Nat} {v:Value} {n:Nat} {cs:List Value} (h:zz A w z v n cs) {off len:Nat} (hle:off+len<=n) {u:Value} (hs:AN z v off len u) :
  zz A w z u len ((cs.drop (off*z)).take (len*z)):=by
 have hlen:((cs.drop (off*z)).take (len*z)).length=len*z:=by
  have h1:=h.1
  have h2:(off+len)*z<=n*z:=zP _ hle
  rw [Nat.add_mul] at h2
  simp [List.length_take,List.length_drop]; omega
 refine ⟨hlen,?_⟩
 rcases hs with ⟨_,hu,h0⟩ | ⟨g,o,n',cap,o',cap',hb,hu,VQ,SD,XT,Zn⟩
 ·exact .inl ⟨hu,h0⟩
 ·rcases h.2 with ⟨hn,_⟩ | ⟨g1,off1,cap1,cur,e,fz,hv,hg,ha,_,mi,ht⟩
  ·rw [hn] at hb; cases hb
  ·rw [hv] at hb
   obtain ⟨rfl,rfl⟩:g1=g/\off1=o:=by
    injection hb with h1 _ _; injection h1 with h1; injection h1 with h1 h2 _; exact ⟨h1,h2⟩
   have h2:(off+len)*z<=n*z:=zP _ hle
   rw [Nat.add_mul] at h2
   refine .inr ⟨g1,o',cap',cur,e,fz,hu,hg,ha,VQ.1,?_,?_⟩
   ·rcases Zn with h0 | h0
    ·subst h0; simp; omega
    ·omega
   ·rcases Zn with h0 | h0
    ·subst h0; simp
    ·subst h0
     rw [← ht,List.drop_take,List.take_take,List.drop_drop]
     congr 1; omega
theorem vO.sub {A:Nat->Prop} {w:World} {τ:Ty} {xs:List (El τ)} {v:Value} {cs:List Value} (h:vO A w τ xs v cs) {off len:Nat} (hle:off+len<=xs.length) {u:Value}
  (hs:AN (sz τ) v off len u):vO A w τ (Soft.sub xs off len) u ((cs.drop (off*sz τ)).take (len*sz τ)):=by
 have hl:=kG xs hle
 refine ⟨by rw [hl]; exact h.top.sub hle hs,fun e c ct he hc=> ?_⟩
 rw [hl] at he
 rw [sR xs _ he] at hc
 obtain ⟨x,hx,hr⟩:=h.rG (off+e) c ct (by omega) hc
 refine ⟨x,?_,hr⟩
 have lD:c<sz τ:=by
  have:=(zU.1 hc).1
  rwa [bd] at this
 have:e*sz τ+c<len*sz τ:=by
  have:=zP (sz τ) (show e+1<=len from he)
  rw [Nat.add_mul] at this; omega
 rw [List.getElem?_take,if_pos this,List.getElem?_drop,← hx]
 congr 1; rw [Nat.add_mul]; omega
theorem fm (τ:Ty) (ys:List (El τ)):∀ e c,e<ys.length->c<sz τ->(fW τ ys)[e*sz τ+c]? =((cells τ (ys.getD e (ch τ)))[c]?).map gu:=by
 induction ys with
 | nil=>intro e c he; simp at he
 | cons y ys ih =>
  intro e c he hc
  have hl:((cells τ y).map gu).length=sz τ:=by simp [bd]
  simp only [fW,List.flatMap_cons]
  cases e with
  | zero=>rw [List.getElem?_append_left (by rw [hl]; simpa using hc)]; simp
  | succ e =>
   rw [List.getElem?_append_right (by rw [hl,Nat.add_mul]; omega),hl]
   have:=ih e c (by simpa using he) hc
   simp only [fW] at this
   simpa [show (e+1)*sz τ+c-sz τ=e*sz τ+c by rw [Nat.add_mul]; omega] using this
theorem mj (τ:Ty) (ys:List (El τ)):(fW τ ys).length=ys.length*sz τ:=by
 induction ys with
 | nil=>simp [fW]
 | cons y ys ih=>simp only [fW,List.flatMap_cons,zK,List.length_map,bd,zR,Nat.add_mul] at ih ⊢; omega
theorem vO.of_flat {A:Nat->Prop} {w:World} {τ:Ty} {ys:List (El τ)} {v:Value} (hd:τ.deep=false) (h:zz A w (sz τ) v ys.length (fW τ ys)):vO A w τ ys v (fW τ ys):=by
 refine ⟨h,fun e c ct he hc=> ?_⟩
 have lD:c<sz τ:=by
  have:=(zU.1 hc).1
  rwa [bd] at this
 refine ⟨gu ct,by rw [fm τ ys e c he lD,hc]; rfl,?_⟩
 have hm:ct∈cells τ (ys.getD e (ch τ)):=List.mem_of_getElem? hc
 cases ct with
 | u=>exact absurd hm (ye _)
 | l σ zs=>exact absurd rfl (oM hd _ _ hm σ zs)
 | _=>rfl
theorem vO.flat {A:Nat->Prop} {w:World} {τ:Ty} {ys:List (El τ)} {v:Value} {cs:List Value} (hd:τ.deep=false) (h:vO A w τ ys v cs):cs=fW τ ys:=by
 have hz:=oz τ
 apply List.ext_getElem?
 intro i
 by_cases hi:i<ys.length*sz τ
 ·have he:i/sz τ<ys.length:=Nat.div_lt_of_lt_mul (by rwa [Nat.mul_comm])
  have hc:i % sz τ<sz τ:=Nat.mod_lt _ hz
  have VB:i/sz τ*sz τ+i % sz τ=i:=by rw [Nat.mul_comm]; exact Nat.div_add_mod i (sz τ)
  have CQ:(cells τ (ys.getD (i/sz τ) (ch τ)))[i % sz τ]? =some ((cells τ (ys.getD (i/sz τ) (ch τ)))[i % sz τ]'(by rw [bd]; exact hc)):=List.getElem?_eq_getElem _
  obtain ⟨u,hu,hr⟩:=h.rG _ _ _ he CQ
  have h2:=fm τ ys _ _ he hc
  rw [VB] at hu h2
  rw [hu,h2,CQ]
  have hm:(cells τ (ys.getD (i/sz τ) (ch τ)))[i % sz τ]'(by rw [bd]; exact hc)∈cells τ (ys.getD (i/sz τ) (ch τ)):=List.getElem_mem _
  revert hr hm
  generalize (cells τ (ys.getD (i/sz τ) (ch τ)))[i % sz τ]'(by rw [bd]; exact hc)=ct
  intro hr hm
  cases ct with
  | u=>exact absurd hm (ye _)
  | l σ zs=>exact absurd rfl (oM hd _ _ hm σ zs)
  | _=>exact congrArg some hr
 ·rw [List.getElem?_eq_none (by rw [h.top.1]; omega),List.getElem?_eq_none (by rw [mj]; omega)]
def AtV (b:Value) (i:Nat) (v:Value):Prop:=∃ g o n cap,b= .slice (some ⟨g,o,none⟩) n cap/\v= .pointer (some ⟨g,o+i,none⟩)
def bq (m:Lk) (γ:Gh):Cv->Value->Prop
 | .un,v=>v.oneCell'=true
 | .b x,v=>v= .bool x
 | .i k n,v=>v= .int k n
 | .s x,v=>v= .string x
 | .nl _,v=>v= .slice none 0 0
 | .sw r,v=>(∃ row,m.r r=some row)/\v=γ.rv r
 | .sl r off len,v=>∃ row,m.r r=some row/\off+len<=row.xs.length/\AN (sz row.τ) (γ.rv r) off len v
 | .nw r e c,v=>∃ row τ ys,m.r r=some row/\e<row.xs.length/\(row.cs e)[c]? =some (.l τ ys)/\(γ.cv r)[e*sz row.τ+c]? =some v
 | .ns r e c off len,v=>∃ row τ ys u,m.r r=some row/\e<row.xs.length/\(row.cs e)[c]? =some (.l τ ys)/\(γ.cv r)[e*sz row.τ+c]? =some u/\off+len<=ys.length/\AN (sz τ) u off len v
 | .pv k c,v=>(∃ cs,m.v k=some cs)/\v= .pointer (some ⟨γ.vb k,c,none⟩)
 | .pe r e c,v=>∃ row,m.r r=some row/\e<row.xs.length/\AtV (γ.rv r) (e*sz row.τ+c) v
 | .pn r e c k d,v=>∃ row τ ys u,m.r r=some row/\e<row.xs.length/\(row.cs e)[c]? =some (.l τ ys)/\(γ.cv r)[e*sz row.τ+c]? =some u/\k<ys.length/\AtV u (k*sz τ+d) v
 | .fn f caps,v=>(∀ k∈caps,∃ cs,m.v k=some cs)/\v= .func (.func f) #[] (caps.map fun k=>Value.pointer (some ⟨γ.vb k,0,none⟩)).toArray
inductive ca (m:Lk) (γ:Gh):List Cv->List Value->Prop
 | nil:ca m γ [] []
 | cons {x:Cv} {v:Value} {l:List Cv} {u:List Value}:bq m γ x v->ca m γ l u->ca m γ (x::l) (v::u)
def O2 (m:Lk) (γ:Gh) (p:Bool×List Cv) (v:Value):Prop:=∃ us,ca m γ p.2 us/\(p.1=true->v= .agg us.toArray)/\(p.1=false->us=[v])
inductive sb (m:Lk) (γ:Gh):List (Bool×List Cv)->List Value->Prop
 | nil:sb m γ [] []
 | cons {p:Bool×List Cv} {v:Value} {l:List (Bool×List Cv)} {u:List Value}:O2 m γ p v->sb m γ l u->sb m γ (p::l) (v::u)
def bk (m:Lk) (γ:Gh):AV->Value->Prop
 | .c .un,_=>True
 | .c x,v=>bq m γ x v
 | .a l,v=>∃ us,v= .agg us.toArray/\ca m γ l us
 | .t l,v=>∃ us,v= .tuple us.toArray/\sb m γ l us
 | .g _ q u,v=>(q=true->bk m γ u v)/\(q=false->v=undef)
theorem bk.of {m:Lk} {γ:Gh} {x:Cv} {v:Value} (h:bq m γ x v):bk m γ (.c x) v:=by
 cases x<;>first | trivial | exact h
theorem bk.to {m:Lk} {γ:Gh} {x:Cv} {v:Value} (h:bk m γ (.c x) v) (hx:x≠ .un):bq m γ x v:=by
 cases x<;>first | exact absurd rfl hx | exact h
structure Rel (X:Ctx) (m:Lk) (γ:Gh) (w:World):Prop where
 vs:∀ k cs,m.v k=some cs->γ.O (γ.vb k)=some (.v k)/\∃ cur e,w.heap[γ.vb k]? =some (.cells cur e (0,0))/\ca m γ cs cur.toList
 rs:∀ k row,m.r k=some row->cP X γ.O w k row (γ.rv k) (γ.cv k)
def EC (X:Ctx) (S:St) (γ:Gh) (a:Act):Prop:=X.nt<=a.tmps.size/\∀ t av,lk S.tm t=some av->bk S.lk γ av (a.tmps.getD t undef)
structure Fr (O0:OM) (w0:World) (O:OM) (w:World):Prop where
 os:w.os=w0.os
 tape:w.tape=w0.tape
 output:w.output=w0.output
 size:w0.heap.size<=w.heap.size
 oR:∀ g,g<w0.heap.size->(O0 g=none\/O0 g=some .fz\/O0 g=some .x)->O g=O0 g/\w.heap[g]? =w0.heap[g]?
 top:∀ g,w.heap.size<=g->O g=none
structure WN (m:Lk) (γ:Gh) (m':Lk) (γ':Gh) (r:Nat):Prop where
 row:∀ row,m.r r=some row->∃ row',m'.r r=some row'/\row'.τ=row.τ/\row.xs.length<=row'.xs.length
 rv:γ'.rv r=γ.rv r
structure NK (m:Lk) (γ:Gh) (m':Lk) (γ':Gh) (r:Nat):Prop where
 cell:∀ row row',m.r r=some row->m'.r r=some row'->∀ e c τ ys,e<row.xs.length->(row.cs e)[c]? =some (.l τ ys) ->
  (∃ ys':List (El τ),(row'.cs e)[c]? =some (.l τ ys')/\ys.length<=ys'.length)/\(γ'.cv r)[e*sz row.τ+c]? =(γ.cv r)[e*sz row.τ+c]?
structure Xq (m:Lk) (γ:Gh) (m':Lk) (γ':Gh) (k:Nat):Prop where
 cs:∀ cs,m.v k=some cs->∃ cs',m'.v k=some cs'
 vb:γ'.vb k=γ.vb k
theorem bq.re {m m':Lk} {γ γ':Gh} {x:Cv} {v:Value} (h:bq m γ x v) (hr:∀ r,x.row=some r->WN m γ m' γ' r) (hn:∀ r,x.row=some r->x.inner=true->NK m γ m' γ' r)
  (hv:∀ k∈x.vk,Xq m γ m' γ' k):bq m' γ' x v:=by
 cases x with
 | un=>exact h
 | b x=>exact h
 | i k n=>exact h
 | s x=>exact h
 | nl τ=>exact h
 | sw r =>
  obtain ⟨⟨row,bo⟩,h2⟩:=h
  obtain ⟨row',h3,_⟩:=(hr r rfl).row row bo
  exact ⟨⟨row',h3⟩,h2.trans (hr r rfl).rv.symm⟩
 | sl r off len =>
  obtain ⟨row,bo,hle,hs⟩:=h
  obtain ⟨row',h3,h4,h5⟩:=(hr r rfl).row row bo
  exact ⟨row',h3,by omega,by rw [h4,(hr r rfl).rv]; exact hs⟩
 | nw r e c =>
  obtain ⟨row,τ,ys,bo,he,hc,hu⟩:=h
  obtain ⟨row',h3,h4,h5⟩:=(hr r rfl).row row bo
  obtain ⟨⟨ys',h6,h7⟩,h8⟩:=(hn r rfl rfl).cell row row' bo h3 e c τ ys he hc
  exact ⟨row',τ,ys',h3,by omega,h6,by rw [h4,h8]; exact hu⟩
 | ns r e c off len =>
  obtain ⟨row,τ,ys,u,bo,he,hc,hu,hle,hs⟩:=h
  obtain ⟨row',h3,h4,h5⟩:=(hr r rfl).row row bo
  obtain ⟨⟨ys',h6,h7⟩,h8⟩:=(hn r rfl rfl).cell row row' bo h3 e c τ ys he hc
  exact ⟨row',τ,ys',u,h3,by omega,h6,by rw [h4,h8]; exact hu,by omega,hs⟩
 | pv k c =>
  obtain ⟨⟨cs,iX⟩,h2⟩:=h
  exact ⟨(hv k (by simp [Cv.vk])).cs cs iX,by rw [(hv k (by simp [Cv.vk])).vb]; exact h2⟩
 | pe r e c =>
  obtain ⟨row,bo,he,ha⟩:=h
  obtain ⟨row',h3,h4,h5⟩:=(hr r rfl).row row bo
  exact ⟨row',h3,by omega,by rw [h4,(hr r rfl).rv]; exact ha⟩
 | pn r e c k d =>
  obtain ⟨row,τ,ys,u,bo,he,hc,hu,hk,ha⟩:=h
  obtain ⟨row',h3,h4,h5⟩:=(hr r rfl).row row bo
  obtain ⟨⟨ys',h6,h7⟩,h8⟩:=(hn r rfl rfl).cell row row' bo h3 e c τ ys he hc
  exact ⟨row',τ,ys',u,h3,by omega,h6,by rw [h4,h8]; exact hu,by omega,ha⟩
 | fn f caps =>
  obtain ⟨h1,h2⟩:=h
  refine ⟨fun k hk=>let ⟨cs,iX⟩:=h1 k hk; (hv k hk).cs cs iX,?_⟩
  rw [h2]; congr 2
  exact List.map_congr_left fun k hk=>by rw [(hv k hk).vb]
structure Le (m M:Lk):Prop where
 r:∀ k row,m.r k=some row->M.r k=some row
 v:∀ k cs,m.v k=some cs->M.v k=some cs
theorem Le.refl (m:Lk):Le m m:=⟨fun _ _ h=>h,fun _ _ h=>h⟩
theorem vy (row:Row) (e:Nat):row.cs e=cells row.τ (row.xs.getD e (ch row.τ)):=rfl
theorem vO.cell {A:Nat->Prop} {w:World} {row:Row} {v:Value} {cs:List Value} (h:vO A w row.τ row.xs v cs) {e c:Nat} {τ:Ty} {ys:List (El τ)} {u:Value}
  (he:e<row.xs.length) (hc:(row.cs e)[c]? =some (.l τ ys)) (hu:cs[e*sz row.τ+c]? =some u):τ.deep=false/\vO A w τ ys u (fW τ ys):=by
 obtain ⟨u',oU,hd,hs⟩:=h.rG e c _ he hc
 rw [hu] at oU; cases oU
 exact ⟨hd,.of_flat hd hs⟩
def UD (γ:Gh) (x:Cv) (g:Nat):Prop:=match x.row with | some r=>MA r (γ.O g) | none=>False
theorem Ks {m M:Lk} {γ:Gh} {w:World} (hm:Le m M) {x:Cv} {v:Value} (hx:bq M γ x v) {τ:Ty} {xs:List (El τ)} {A:Nat->Prop}
  (fam:∀ r row,m.r r=some row->x.row=some r->vO A w row.τ row.xs (γ.rv r) (γ.cv r))
  (h:(m.vw x).ct=some (.l τ xs)):(∃ cs,vO A w τ xs v cs)/\(m.vw x).len=some xs.length:=by
 cases x with
 | nl σ =>
  simp only [Lk.vw,Vw.ct,zA,Ct.l.injEq] at h
  obtain ⟨rfl,h⟩:=h; cases h
  refine ⟨⟨[],⟨by simp,.inl ⟨hx,rfl⟩⟩,fun e c ct he=>by simp at he⟩,rfl⟩
 | sw r =>
  simp only [Lk.vw] at h ⊢
  cases hr:m.r r with
  | none=>simp [hr,Vw.ct] at h
  | some row =>
   simp only [hr,Vw.ct,zA,Ct.l.injEq] at h
   obtain ⟨rfl,h⟩:=h; cases h
   obtain ⟨_,hx⟩:=hx
   exact ⟨⟨_,by rw [hx]; exact fam r row hr rfl⟩,by simp [Vw.len]⟩
 | sl r off len =>
  simp only [Lk.vw] at h ⊢
  cases hr:m.r r with
  | none=>simp [hr,Vw.ct] at h
  | some row =>
   simp only [hr,Vw.ct,zA,Ct.l.injEq] at h
   obtain ⟨rfl,h⟩:=h; cases h
   obtain ⟨row',cz,hle,hs⟩:=hx
   rw [hm.r r row hr] at cz; cases cz
   exact ⟨⟨_,(fam r row hr rfl).sub hle hs⟩,by simp [Vw.len,kG _ hle]⟩
 | nw r e c =>
  simp only [Lk.vw,ic] at h ⊢
  cases hr:m.r r with
  | none=>simp [hr,Vw.ct] at h
  | some row =>
   obtain ⟨row',τ',ys,cz,he,hc,hu⟩:=hx
   rw [hm.r r row hr] at cz; cases cz
   simp only [hr,hc,Vw.ct,zA,Ct.l.injEq] at h
   obtain ⟨rfl,h⟩:=h; cases h
   exact ⟨⟨_,((fam r row hr rfl).cell he hc hu).2⟩,by simp [hc,Vw.len]⟩
 | ns r e c off len =>
  simp only [Lk.vw,ic] at h ⊢
  cases hr:m.r r with
  | none=>simp [hr,Vw.ct] at h
  | some row =>
   obtain ⟨row',τ',ys,u,cz,he,hc,hu,hle,hs⟩:=hx
   rw [hm.r r row hr] at cz; cases cz
   simp only [hr,hc,Vw.ct,zA,Ct.l.injEq] at h
   obtain ⟨rfl,h⟩:=h; cases h
   exact ⟨⟨_,((fam r row hr rfl).cell he hc hu).2.sub hle hs⟩,by simp [hc,Vw.len,kG _ hle]⟩
 | _=>simp [Lk.vw,Vw.ct] at h
def Q6 (r ow:Nat) (o:Option Ow):Prop:=In (dO r ow) o\/∃ e c,In (dR r e c ow) o
theorem cP.aaa {X:Ctx} {O:OM} {w:World} {k:Nat} {row:Row} {v:Value} {cs:List Value} (h:cP X O w k row v cs) {A:Nat->Prop} (ha:∀ g,Q6 k row.ow (O g)->A g):vO A w row.τ row.xs v cs :=
 ⟨h.top.zb.mono fun g o hg hi=>⟨hg,ha g (.inl hi)⟩,fun e c ct he hc=>let ⟨u,hu,hr⟩:=h.rG e c ct he hc; ⟨u,hu,hr.Xx fun g hi=>ha g (.inr ⟨e,c,hi⟩)⟩⟩
theorem As {X:Ctx} {m M:Lk} {γ:Gh} {w:World} (hm:Le m M) (hR:Rel X M γ w) {x:Cv} {v:Value} (hx:bq M γ x v) {τ:Ty} {xs:List (El τ)}
  (h:(m.vw x).ct=some (.l τ xs)):(∃ cs,vO (UD γ x) w τ xs v cs)/\(m.vw x).len=some xs.length :=
 Ks hm hx (fun r row hr hx=>(hR.rs r row (hm.r r row hr)).Xx fun g hg=>by simpa [UD,hx] using hg) h
theorem EL {X:Ctx} {m M:Lk} {γ:Gh} {w:World} (hm:Le m M) (hR:Rel X M γ w) {x:Cv} {v:Value} (hx:bq M γ x v) {τ:Ty} {xs:List (El τ)} {A:Nat->Prop}
  (hA:∀ r row g,m.r r=some row->x.row=some r->Q6 r row.ow (γ.O g)->A g) (h:(m.vw x).ct=some (.l τ xs)):∃ cs,vO A w τ xs v cs :=
 (Ks hm hx (fun r row hr hx=>(hR.rs r row (hm.r r row hr)).aaa fun g hg=>hA r row g hr hx hg) h).1
def StructEq (P:Program) (t:TypeId) (ks:List Ct):Prop:=∀ (l m:List Cv) (us vs:List Value) (c:Bool) (γ:Gh) (M:Lk) (w:World),m4 ks l=true->m4 ks m=true->ca M γ l us->ca M γ m vs->yG l m=some c ->
 (do eqGuard .eql t (.tmp 0) (.tmp 0) (.agg us.toArray) (.agg vs.toArray); Op.equal t (.agg us.toArray) (.agg vs.toArray):Sem Bool).run P w= .ok c w
structure iy (X:Ctx):Prop where
 ty:∀ e τ,lk X.ty e=some τ->∃ i,X.P.info? e=some i/\i.size=sz τ
 id:∀ e τ,lk X.ty e=some τ->X.id τ=e->∃ i z,X.P.info? e=some i/\i.zero=some z/\z.cells.toList=(cells τ (ch τ)).map gu/\i.bytes<=128
 byte:∀ e,lk X.ty e=some .byte->X.P.underlying e=some (.int .u8)
 eqs:∀ t ks,lk X.eqs t=some ks->StructEq X.P t ks
 mixed:X.P.follows .mixedOrders=true
variable {X:Ctx} {m M:Lk} {γ:Gh} {w:World} {ρ:Operand->Value}
theorem F8 {P:Program} {t:TypeId} {i:TypeInfo} (h:P.info? t=some i) (w:World):(typeInfo t).run P w= .ok i w:=by
 simp [typeInfo,h]
theorem oq {P:Program} {t:TypeId} {i:TypeInfo} (h:P.info? t=some i) (w:World):(sizeOf t).run P w= .ok i.size w:=by
 simp [sizeOf,typeInfo,h]
theorem GF {P:Program} {t:TypeId} {n:Nat} (h:fS P t=n) (hn:0<n):∃ i,P.info? t=some i/\i.size=n:=by
 unfold fS at h
 cases hi:P.info? t with
 | none=>simp [hi] at h; omega
 | some i=>exact ⟨i,rfl,by simpa [hi] using h⟩
theorem qN {a b:IntKind} (h:Fy a b=true):a=b:=by cases a<;>cases b<;>first | rfl | simp [Fy] at h
theorem AZ {a b:Ty} (h:Ln a b=true):a=b:=by cases a<;>cases b<;>first | rfl | simp [Ln] at h
theorem Pt (a:Ty):Ln a a=true:=by cases a<;>rfl
theorem rH:∀ x y:List UInt8,(Op.bytesLess x y||x==y)= !Op.bytesLess y x
 | [],[]=>rfl
 | [],b::y=>rfl
 | a::x,[]=>rfl
 | a::x,b::y=>by
  have ih:=rH x y
  simp only [Op.bytesLess]
  by_cases h1:a<b
  ·have h2:¬ b<a:=UInt8.lt_asymm h1
   have h3:a≠b:=fun e=>UInt8.lt_irrefl _ (e▸h1)
   simp [h1,h2,h3,Ne.symm h3]
  ·by_cases h2:b<a
   ·have h3:a≠b:=fun e=>UInt8.lt_irrefl _ (e▸h2)
    simp [h1,h2,h3,Ne.symm h3]
   ·have h3:a=b:=UInt8.le_antisymm (UInt8.not_lt.1 h2) (UInt8.not_lt.1 h1)
    subst h3
    simp only [UInt8.lt_irrefl,decide_false,Bool.false_or,beq_self_eq_true,Bool.true_and]
    rw [← ih]
    simp
def Good (o:Out) (v:AV):Prop:=o= .r0 v\/o= .r true v
theorem Uc {op:BinOp} {k:IntKind} {a b:Int} {t:TypeId} {x y:Operand} {v:AV} (h:Good (mE op (.c (.i k a)) (.c (.i k b))) v) :
  ∃ u,(do eqGuard op t x y (.int k a) (.int k b); Go.binOp op t (.int k a) (.int k b):Sem Value).run X.P w= .ok u w/\bk M γ v u:=by
 have hk:Fy k k=true:=by cases k<;>rfl
 cases op<;>simp only [Good,mE,UY,hk,Out.r0.injEq,Out.r.injEq,reduceCtorEq,or_false,false_or,zD,Bool.not_eq_true',beq_eq_false_iff_ne] at h
 case quo=>obtain ⟨h0,rfl⟩:=h; exact ⟨_,by simp [eqGuard,Go.binOp,Op.intDiv,h0],rfl⟩
 case rem=>obtain ⟨h0,rfl⟩:=h; exact ⟨_,by simp [eqGuard,Go.binOp,Op.intDiv,h0],rfl⟩
 case shl=>obtain ⟨h0,rfl⟩:=h; exact ⟨_,by simp [eqGuard,Go.binOp,Op.shift,Int.not_lt.2 h0],rfl⟩
 case shr=>obtain ⟨h0,rfl⟩:=h; exact ⟨_,by simp [eqGuard,Go.binOp,Op.shift,Int.not_lt.2 h0],rfl⟩
 all_goals (subst h; exact ⟨_,by simp [eqGuard,Go.binOp,Op.intArith,Op.intBits,Op.intCmp,bne],rfl⟩)
theorem O8 {op:BinOp} {k k':IntKind} {a b:Int} {t:TypeId} {x y:Operand} {v:AV} (hk:Fy k k'=false) (h:Good (mE op (.c (.i k a)) (.c (.i k' b))) v) :
  ∃ u,(do eqGuard op t x y (.int k a) (.int k' b); Go.binOp op t (.int k a) (.int k' b):Sem Value).run X.P w= .ok u w/\bk M γ v u:=by
 cases op<;>simp only [Good,mE,UY,hk,Out.r0.injEq,Out.r.injEq,reduceCtorEq,or_false,false_or,zD,Bool.not_eq_true',beq_eq_false_iff_ne] at h
 case shl=>obtain ⟨h0,rfl⟩:=h; exact ⟨_,by simp [eqGuard,Go.binOp,Op.shift,Int.not_lt.2 h0],rfl⟩
 case shr=>obtain ⟨h0,rfl⟩:=h; exact ⟨_,by simp [eqGuard,Go.binOp,Op.shift,Int.not_lt.2 h0],rfl⟩
theorem UW {op:BinOp} {a b:ByteArray} {t:TypeId} {x y:Operand} {v:AV} (h:Good (mE op (.c (.s a)) (.c (.s b))) v) :
  ∃ u,(do eqGuard op t x y (.string a) (.string b); Go.binOp op t (.string a) (.string b):Sem Value).run X.P w= .ok u w/\bk M γ v u:=by
 have e1:(a.toList==b.toList)=(a==b):=(beq_toListBytes a b).symm
 have e2:=rH a.toList b.toList
 cases op<;>simp only [Good,mE,XB,QD,Out.r0.injEq,Out.r.injEq,reduceCtorEq,or_false,false_or,zD] at h
 case add =>
  obtain ⟨h0,rfl⟩:=h
  have:¬ ((a.size+b.size:Nat):Int)>IntKind.i64.max:=by
   show ¬ ((a.size+b.size:Nat):Int)>9223372036854775807
   omega
  exact ⟨_,by simp only [eqGuard,Go.binOp,Op.stringOp,if_neg this]; rfl,rfl⟩
 case gtr=>subst h; exact ⟨_,by simp only [eqGuard,Go.binOp,Op.stringOp,e2]; rfl,by simp [bk,bq]⟩
 case leq=>subst h; exact ⟨_,by simp only [eqGuard,Go.binOp,Op.stringOp,e2]; rfl,by simp [bk,bq]⟩
 all_goals (subst h; exact ⟨_,by simp only [eqGuard,Go.binOp,Op.stringOp,e1]; rfl,rfl⟩)
theorem run_equal_bool {t:TypeId} (ht:X.P.underlying t=some .bool) (a b:Bool):(Op.equal t (.bool a) (.bool b)).run X.P w= .ok (a==b) w:=by
 show (Op.equalIn (9999+1) t (.bool a) (.bool b)).run X.P w=_
 rw [Op.equalIn,Sem.run_bind,run_underlying ht]
 rfl
theorem RQ {op:BinOp} {a:Bool} {b:AV} {bv:Value} {t:TypeId} {x y:Operand} {v:AV} (ht:X.P.underlying t=some .bool) (hb:bk M γ b bv) (h:Good (mE op (.c (.b a)) b) v) :
  ∃ u,(do eqGuard op t x y (.bool a) bv; Go.binOp op t (.bool a) bv:Sem Value).run X.P w= .ok u w/\bk M γ v u:=by
 cases b with
 | c y =>
  cases y with
  | b b =>
   have hb:bv= .bool b:=hb
   subst hb
   cases op<;>simp only [Good,mE,Out.r0.injEq,Out.r.injEq,reduceCtorEq,or_false,false_or] at h
   all_goals (subst h; exact ⟨_,by simp only [eqGuard,Go.binOp,Sem.run_bind,zM,Bool.false_eq_true,if_false,Sem.run_pure,Result.andThen_ok,run_equal_bool ht],rfl⟩)
  | _=>simp [Good,mE] at h
 | _=>simp [Good,mE] at h
theorem Uo (hX:iy X) {op:BinOp} {a:List Cv} {b:AV} {av bv:Value} {t:TypeId} {x y:Operand} {v:AV} {ks:List Ct} (ht:lk X.eqs t=some ks) (vQ:m4 ks a=true) (r9:∀ m,b= .a m->m4 ks m=true) (ha:bk M γ (.a a) av) (hb:bk M γ b bv)
  (h:Good (mE op (.a a) b) v):∃ u,(do eqGuard op t x y av bv; Go.binOp op t av bv:Sem Value).run X.P w= .ok u w/\bk M γ v u:=by
 cases b with
 | a m =>
  obtain ⟨us,rfl,hu⟩:=ha
  obtain ⟨vs,rfl,hv⟩:=hb
  have key:∀ c,yG a m=some c->(eqGuard .eql t (.tmp 0) (.tmp 0) (.agg us.toArray) (.agg vs.toArray) >>= fun _=>Op.equal t (.agg us.toArray) (.agg vs.toArray)).run X.P w= .ok c w :=
   fun c hc=>hX.eqs t ks ht a m us vs c γ M w vQ (r9 m rfl) hu hv hc
  have g1:∀ op x y,(op= .eql\/op= .neq)->eqGuard op t x y (.agg us.toArray) (.agg vs.toArray)=eqGuard .eql t (.tmp 0) (.tmp 0) (.agg us.toArray) (.agg vs.toArray):=by
   intro op x y ho; rcases ho with rfl | rfl<;>simp [eqGuard]
  cases hc:yG a m with
  | none=>cases op<;>simp [Good,mE,hc] at h
  | some c =>
   have key:=key c hc
   simp only [Sem.run_bind] at key
   cases op<;>simp only [Good,mE,hc,Out.r0.injEq,Out.r.injEq,reduceCtorEq,or_false,false_or] at h
   case eql =>
    subst h
    refine ⟨_,?_,rfl⟩
    rw [g1 _ x y (.inl rfl)]
    simp only [Go.binOp,Sem.run_bind]
    cases hg:(eqGuard .eql t (.tmp 0) (.tmp 0) (.agg us.toArray) (.agg vs.toArray)).run X.P w with
    | halt hh w'=>rw [hg] at key; simp at key
    | ok z w' =>
     rw [hg] at key
     simp only [Result.andThen_ok] at key ⊢
     rw [key]; rfl
   case neq =>
    subst h
    refine ⟨_,?_,rfl⟩
    rw [g1 _ x y (.inr rfl)]
    simp only [Go.binOp,Sem.run_bind]
    cases hg:(eqGuard .eql t (.tmp 0) (.tmp 0) (.agg us.toArray) (.agg vs.toArray)).run X.P w with
    | halt hh w'=>rw [hg] at key; simp at key
    | ok z w' =>
     rw [hg] at key
     simp only [Result.andThen_ok] at key ⊢
     rw [key]; rfl
 | _=>simp [Good,mE] at h
theorem jy (g o n:Nat):(⟨g,o,none⟩:Addr).add n=⟨g,o+n,none⟩:=by
 unfold Addr.add; split<;>simp_all
def wN (v:Value) (n:Nat):Prop:=(v= .slice none 0 0/\n=0)\/∃ g o cap,v= .slice (some ⟨g,o,none⟩) n cap/\n<=cap
theorem zz.Ja {A:Nat->Prop} {z:Nat} {v:Value} {n:Nat} {cs:List Value} (h:zz A w z v n cs):wN v n:=by
 rcases h.2 with h | ⟨g,o,cap,cur,e,fz,hv,_,_,hn,_⟩
 ·exact .inl h
 ·exact .inr ⟨g,o,cap,hv,hn⟩
theorem wN.sub {z:Nat} {b v:Value} {off len n:Nat} (hs:AN z b off len v):wN v len:=by
 rcases hs with ⟨_,hv,h0⟩ | ⟨g,o,n',cap,o',cap',_,hv,hl,_⟩
 ·exact .inl ⟨hv,h0⟩
 ·exact .inr ⟨g,o',cap',hv,hl.1⟩
theorem wN.self {z:Nat} {b:Value} {n:Nat} (h:wN b n):AN z b 0 n b:=by
 rcases h with ⟨rfl,rfl⟩ | ⟨g,o,cap,rfl,hn⟩
 ·exact .inl ⟨rfl,rfl,rfl⟩
 ·exact .inr ⟨g,o,n,cap,o,cap,rfl,rfl,⟨hn,by simp⟩,Nat.le_refl _,by simp,.inr (by simp)⟩
theorem tU (hm:Le m M) (hR:Rel X M γ w) {x:Cv} {v:Value} (hx:bq M γ x v) {n:Nat} (h:(m.vw x).len=some n):wN v n:=by
 cases x with
 | nl σ=>simp only [Lk.vw,Vw.len,zA] at h; subst h; exact .inl ⟨hx,rfl⟩
 | sw r =>
  simp only [Lk.vw] at h
  cases hr:m.r r with
  | none=>simp [hr,Vw.len] at h
  | some row =>
   simp only [hr,Vw.len,zA] at h; subst h
   obtain ⟨_,rfl⟩:=hx
   exact (hR.rs r row (hm.r r row hr)).top.zb.Ja
 | sl r off len =>
  simp only [Lk.vw] at h
  cases hr:m.r r with
  | none=>simp [hr,Vw.len] at h
  | some row =>
   simp only [hr,Vw.len,zA] at h; subst h
   obtain ⟨_,_,_,hs⟩:=hx
   exact wN.sub (n:=0) hs
 | nw r e c =>
  simp only [Lk.vw,ic] at h
  cases hr:m.r r with
  | none=>simp [hr,Vw.len] at h
  | some row =>
   obtain ⟨row',τ',ys,cz,he,hc,hu⟩:=hx
   have fL:=hm.r r row hr
   rw [fL] at cz; cases cz
   simp only [hr,hc,Vw.len,zA] at h; subst h
   obtain ⟨u',oU,eG⟩:=(hR.rs r row fL).rG e c _ he hc
   rw [hu] at oU; cases oU
   exact eG.2.zb.Ja
 | ns r e c off len =>
  simp only [Lk.vw,ic] at h
  cases hr:m.r r with
  | none=>simp [hr,Vw.len] at h
  | some row =>
   obtain ⟨row',τ',ys,u,cz,he,hc,hu,hle,hs⟩:=hx
   have fL:=hm.r r row hr
   rw [fL] at cz; cases cz
   simp only [hr,hc,Vw.len,zA] at h; subst h
   exact wN.sub (n:=0) hs
 | _=>simp [Lk.vw,Vw.len] at h
theorem rf {z:Nat} {b v:Value} {off len l k:Nat} (hs:AN z b off len v) (hl:l+k<=len) :
  ∃ a cap,v= .slice a len cap/\len<=cap/\AN z b (off+l) k (sliced a l (l+k) cap z):=by
 rcases hs with ⟨hb,hv,h0⟩ | ⟨g,o,n',cap,o',cap',hb,hv,VQ,SD,XT,Zn⟩
 ·subst hv; subst h0
  obtain ⟨rfl,rfl⟩:l=0/\k=0:=by omega
  exact ⟨none,0,rfl,Nat.le_refl _,.inl ⟨hb,by simp [sliced],rfl⟩⟩
 ·refine ⟨_,_,hv,VQ.1,?_⟩
  have afT:=VQ.1
  have agl:=VQ.2
  simp only [sliced]
  by_cases hc:cap'=l
  ·have hk:k=0:=by omega
   subst hk
   rw [if_pos hc]
   refine .inr ⟨g,o,n',cap,o',cap'-l,hb,by simp,⟨by omega,by omega⟩,SD,?_,.inl rfl⟩
   have:=zP z (show off<=off+l by omega)
   omega
  ·rw [if_neg hc]
   refine .inr ⟨g,o,n',cap,o'+l*z,cap'-l,hb,by simp [jy],⟨by omega,by omega⟩,by omega,?_,?_⟩
   ·rw [Nat.add_mul]; omega
   ·rcases Zn with h0 | h0
    ·left; omega
    ·right; rw [Nat.add_mul]; omega
def G7 (x:Cv) (l k:Nat):AV:=match x with
 | .sw r=> .c (.sl r l k) | .sl r off _=> .c (.sl r (off+l) k) | .nw r e c=> .c (.ns r e c l k) | .ns r e c off _=> .c (.ns r e c (off+l) k) | .nl τ=> .c (.nl τ) | _=> .c .un
theorem Ea (hm:Le m M) (hR:Rel X M γ w) {x:Cv} {v:Value} (hx:bq M γ x v) {n:Nat} (h:(m.vw x).len=some n) {τ:Ty} (ht:(m.vw x).ty=some τ) {l k:Nat} (hl:l+k<=n) :
  ∃ a cap,v= .slice a n cap/\n<=cap/\bk M γ (G7 x l k) (sliced a l (l+k) cap (sz τ)):=by
 have hs:=tU hm hR hx h
 cases x with
 | nl σ =>
  simp only [Lk.vw,Vw.len,zA,List.length_nil] at h; subst h
  obtain ⟨rfl,rfl⟩:l=0/\k=0:=by omega
  have hx:v= .slice none 0 0:=hx
  exact ⟨none,0,hx,Nat.le_refl _,by simp [G7,bk,bq,sliced]⟩
 | sw r =>
  simp only [Lk.vw] at h ht
  cases hr:m.r r with
  | none=>simp [hr,Vw.len] at h
  | some row =>
   simp only [hr,Vw.len,Vw.ty,zA] at h ht; subst h; subst ht
   obtain ⟨_,rfl⟩:=hx
   obtain ⟨a,cap,h1,h2,h3⟩:=rf (z:=sz row.τ) hs.self hl
   exact ⟨a,cap,h1,h2,row,hm.r r row hr,hl,by simpa using h3⟩
 | sl r off len =>
  simp only [Lk.vw] at h ht
  cases hr:m.r r with
  | none=>simp [hr,Vw.len] at h
  | some row =>
   simp only [hr,Vw.len,Vw.ty,zA] at h ht; subst h; subst ht
   obtain ⟨row',cz,hle,rZ⟩:=hx
   rw [hm.r r row hr] at cz; cases cz
   obtain ⟨a,cap,h1,h2,h3⟩:=rf rZ hl
   exact ⟨a,cap,h1,h2,row,hm.r r row hr,by omega,h3⟩
 | nw r e c =>
  simp only [Lk.vw,ic] at h ht
  cases hr:m.r r with
  | none=>simp [hr,Vw.len] at h
  | some row =>
   obtain ⟨row',τ',ys,cz,he,hc,hu⟩:=hx
   rw [hm.r r row hr] at cz; cases cz
   simp only [hr,hc,Vw.len,Vw.ty,zA] at h ht; subst h; subst ht
   obtain ⟨a,cap,h1,h2,h3⟩:=rf (z:=sz τ') hs.self hl
   exact ⟨a,cap,h1,h2,row,τ',ys,v,hm.r r row hr,he,hc,hu,hl,by simpa using h3⟩
 | ns r e c off len =>
  simp only [Lk.vw,ic] at h ht
  cases hr:m.r r with
  | none=>simp [hr,Vw.len] at h
  | some row =>
   obtain ⟨row',τ',ys,u,cz,he,hc,hu,hle,rZ⟩:=hx
   rw [hm.r r row hr] at cz; cases cz
   simp only [hr,hc,Vw.len,Vw.ty,zA] at h ht; subst h; subst ht
   obtain ⟨a,cap,h1,h2,h3⟩:=rf rZ hl
   exact ⟨a,cap,h1,h2,row,τ',ys,u,hm.r r row hr,he,hc,hu,by omega,h3⟩
 | _=>simp [Lk.vw,Vw.len] at h
theorem Gj {P:Program} {t:TypeId} {n:Nat} (h:A9 P t=n) (hn:0<n):∃ e i,P.underlying t=some (.slice e)/\P.info? e=some i/\i.size=n:=by
 simp only [A9,NF] at h
 revert h; split<;>intro h
 ·rename_i e he
  obtain ⟨i,hi,hs⟩:=GF h hn
  revert he; split<;>intro he
  ·cases he; exact ⟨_,i,by assumption,hi,hs⟩
  ·cases he
 ·omega
theorem uS {P:Program} {t e:TypeId} (h:P.underlying t=some (.slice e)):P.elem t=e:=by simp [Program.elem,h]
theorem aG {a b:Nat} (h:Nat.beq a b=true):a=b:=Nat.eq_of_beq_eq_true h
theorem uz {P:Program} (w:World) (t:TypeId) (s:ByteArray) (ht:P.underlying t=some .string) (kl kh:IntKind) (l h:Int) (h0:0<=l) (h1:l<=h) (h2:h<=s.size) :
  (Instr.slice t (.string s) (some (.int kl l)) (some (.int kh h)) none).run P w= .ok (.string (s.extract l.toNat h.toNat)) w:=by
 have eh:(h.toNat:Int)=h:=Int.toNat_of_nonneg (by omega)
 simp [Instr.slice,run_underlying ht,Instr.sliceBounds,run_sliceBound,h0,h1,h2,eh,(by omega:0<=h)]
theorem HQ (m:Lk) (x:Cv) (hx:∀ a,x≠ .s a) (lo hi:Option Int):m.oJ (.c x) lo hi=match (m.vw x).len with
  | none=> .no
  | some n=>match lo,hi with
   | none,none=> .r0 (.c x)
   | some l,none=> .r (decide (0<=l)&&decide (l<=(n:Int))) (G7 x l.toNat (n-l.toNat))
   | none,some h=> .r (decide (0<=h)&&decide (h<=(n:Int))) (G7 x 0 h.toNat)
   | some l,some h=> .r (decide (0<=l)&&(decide (l<=h)&&decide (h<=(n:Int)))) (G7 x l.toNat (h.toNat-l.toNat)):=by
 cases x<;>first | (exact absurd rfl (hx _)) | rfl
theorem NA (hm:Le m M) (hR:Rel X M γ w) {t:TypeId} {x:AV} {xv:Value} (hx:bk M γ x xv) {lo hi:Option Int} {kl kh:IntKind} {v:AV} (MP:m.j7 X.P t x=true)
  (h:Good (m.oJ x lo hi) v) :
  ∃ u,(Instr.sliceAt t xv (lo.map (.int kl)) (hi.map (.int kh)) none).run X.P w= .ok u w/\bk M γ v u:=by
 have main:∀ x:Cv,x≠ .un->(∀ a,x≠ .s a)->bq M γ x xv->m.j7 X.P t (.c x)=true->Good (m.oJ (.c x) lo hi) v ->
   ∃ u,(Instr.sliceAt t xv (lo.map (.int kl)) (hi.map (.int kh)) none).run X.P w= .ok u w/\bk M γ v u:=by
  intro x FF hns hx MP h
  have hc:(match (m.vw x).ty with | some τ=>Nat.beq (sz τ) (A9 X.P t) | none=>false)=true:=by
   revert MP; cases x<;>first | (exact absurd rfl (hns _)) | exact id
  rw [HQ m x hns] at h
  cases Sy:(m.vw x).ty with
  | none=>simp [Sy] at hc
  | some τ =>
   simp only [Sy] at hc
   obtain ⟨e,i,he,tw,hs⟩:=Gj (aG hc).symm (oz τ)
   have het:X.P.underlying t=some (.slice (X.P.elem t)):=by rw [uS he]; exact he
   have rP:∀ w,(sizeOf (X.P.elem t)).run X.P w= .ok (sz τ) w:=fun w=>by rw [uS he,oq tw w,hs]
   cases hlen:(m.vw x).len with
   | none=>simp [hlen,Good] at h
   | some n =>
    simp only [hlen] at h
    rw [run_sliceAt_slice w t _ _ _ _ het]
    cases lo with
    | none =>
     cases hi with
     | none =>
      simp only [Good,Out.r0.injEq,reduceCtorEq,or_false] at h; subst h
      rcases tU hm hR hx hlen with ⟨rfl,rfl⟩ | ⟨g,o,cap,rfl,hn⟩
      ·exact ⟨_,by simp only [Option.map]; rw [run_slice_all w t _ _ _ het,rP]; simp [sliced],bk.of hx⟩
      ·exact ⟨_,by simp only [Option.map]; rw [run_slice_all w t _ _ _ het,rP]; simp [sliced,jy],bk.of hx⟩
     | some hh =>
      simp only [Good,Out.r.injEq,reduceCtorEq,false_or,zB,zD] at h
      obtain ⟨⟨h0,h1⟩,rfl⟩:=h
      obtain ⟨a,cap,rfl,hn,hr⟩:=Ea hm hR hx hlen Sy (l:=0) (k:=hh.toNat) (by omega)
      exact ⟨_,by simp only [Option.map]; rw [run_slice_h w t _ _ _ het _ _ h0 (by omega),rP]; rfl,by simpa using hr⟩
    | some l =>
     cases hi with
     | none =>
      simp only [Good,Out.r.injEq,reduceCtorEq,false_or,zB,zD] at h
      obtain ⟨⟨h0,h1⟩,rfl⟩:=h
      obtain ⟨a,cap,rfl,hn,hr⟩:=Ea hm hR hx hlen Sy (l:=l.toNat) (k:=n-l.toNat) (by omega)
      exact ⟨_,by simp only [Option.map]; rw [run_slice_l w t _ _ _ het _ _ h0 (by omega),rP]; rfl,by rw [show l.toNat+(n-l.toNat)=n by omega] at hr; exact hr⟩
     | some hh =>
      simp only [Good,Out.r.injEq,reduceCtorEq,false_or,zB,zD] at h
      obtain ⟨⟨h0,h1,h2⟩,rfl⟩:=h
      obtain ⟨a,cap,rfl,hn,hr⟩:=Ea hm hR hx hlen Sy (l:=l.toNat) (k:=hh.toNat-l.toNat) (by omega)
      exact ⟨_,by simp only [Option.map]; rw [run_slice_lh w t _ _ _ het _ _ _ _ h0 h1 (by omega),rP]; rfl,by rw [show l.toNat+(hh.toNat-l.toNat)=hh.toNat by omega] at hr; exact hr⟩
 cases x with
 | c x =>
  cases x with
  | s a =>
   have hx:xv= .string a:=hx
   subst hx
   have pS:X.P.underlying t=some .string:=by
    revert MP; simp only [Lk.j7,isStr]; split
    ·exact fun _=>by assumption
    ·simp
   rw [run_sliceAt_string w t _ _ _ _ pS]
   cases lo with
   | none =>
    cases hi with
    | none =>
     simp only [Good,Lk.oJ,Out.r0.injEq,reduceCtorEq,or_false] at h; subst h
     exact ⟨_,by simp only [Option.map]; rw [run_slice_string_all w t a pS],rfl⟩
    | some hh =>
     simp only [Good,Lk.oJ,Out.r.injEq,reduceCtorEq,false_or,zB,zD] at h
     obtain ⟨⟨h0,h1⟩,rfl⟩:=h
     exact ⟨_,by simp only [Option.map]; rw [run_slice_string_h w t a pS _ _ h0 h1],rfl⟩
   | some l =>
    cases hi with
    | none =>
     simp only [Good,Lk.oJ,Out.r.injEq,reduceCtorEq,false_or,zB,zD] at h
     obtain ⟨⟨h0,h1⟩,rfl⟩:=h
     exact ⟨_,by simp only [Option.map]; rw [run_slice_string_l w t a pS _ _ h0 h1],rfl⟩
    | some hh =>
     simp only [Good,Lk.oJ,Out.r.injEq,reduceCtorEq,false_or,zB,zD] at h
     obtain ⟨⟨h0,h1,h2⟩,rfl⟩:=h
     exact ⟨_,by simp only [Option.map]; rw [uz w t a pS _ _ _ _ h0 h1 h2],rfl⟩
  | un=>simp [Lk.j7,Lk.vw,Vw.ty] at MP
  | _=>exact main _ (by simp) (by simp) hx MP h
 | _=>simp [Lk.j7] at MP
theorem Pn (hm:Le m M) (hR:Rel X M γ w) {t:TypeId} {x:Cv} {xv:Value} (hx:bq M γ x xv) {i:Int} {k:IntKind} {v:AV} (h:Good (m.q8 x i (A9 X.P t)) v) :
  ∃ u,(Instr.indexAt t xv (.int k i)).run X.P w= .ok u w/\bk M γ v u:=by
 have idx:∀ (τ:Ty) (g o n cap:Nat),Nat.beq (sz τ) (A9 X.P t)=true->0<=i->i<(n:Int) ->
   (Instr.indexAt t (.slice (some ⟨g,o,none⟩) n cap) (.int k i)).run X.P w= .ok (.pointer (some ⟨g,o+i.toNat*sz τ,none⟩)) w:=by
  intro τ g o n cap hz h0 h1
  obtain ⟨e,inf,he,tw,hs⟩:=Gj (aG hz).symm (oz τ)
  simp [Instr.indexAt,asIntOf,run_underlying he,h0,h1,oq tw,hs,jy]
 cases x with
 | sw r =>
  simp only [Lk.q8,Lk.vw] at h
  cases hr:m.r r with
  | none=>simp [hr,Good] at h
  | some row =>
   simp only [hr] at h
   cases hz:Nat.beq (sz row.τ) (A9 X.P t) with
   | false=>simp [hz,Good] at h
   | true =>
    simp only [hz,Good,Out.r.injEq,reduceCtorEq,false_or,bc,zB,zD] at h
    obtain ⟨⟨h0,h1⟩,rfl⟩:=h
    have hs:=tU hm hR hx (n:=row.xs.length) (by simp [Lk.vw,hr,Vw.len])
    rcases hs with ⟨_,hn⟩ | ⟨g,o,cap,rfl,hn⟩
    ·omega
    ·refine ⟨_,idx row.τ g o _ cap hz h0 h1,row,hm.r r row hr,by omega,g,o,row.xs.length,cap,hx.2.symm,by simp⟩
 | sl r off len =>
  simp only [Lk.q8,Lk.vw] at h
  cases hr:m.r r with
  | none=>simp [hr,Good] at h
  | some row =>
   simp only [hr] at h
   cases hz:Nat.beq (sz row.τ) (A9 X.P t) with
   | false=>simp [hz,Good] at h
   | true =>
    simp only [hz,Good,Out.r.injEq,reduceCtorEq,false_or,bc,zB,zD] at h
    obtain ⟨⟨h0,h1⟩,rfl⟩:=h
    obtain ⟨row',cz,hle,rZ⟩:=hx
    rw [hm.r r row hr] at cz; cases cz
    rcases rZ with ⟨_,_,hn⟩ | ⟨g,o,n',cap,o',cap',hb,rfl,VQ,_,_,ho⟩
    ·omega
    ·refine ⟨_,idx row.τ g o' len cap' hz h0 h1,row,hm.r r row hr,by omega,g,o,n',cap,hb,?_⟩
     rcases ho with ho | ho
     ·omega
     ·rw [ho,Nat.add_mul]; simp [Nat.add_assoc]
 | nw r e c =>
  simp only [Lk.q8,Lk.vw,ic] at h
  cases hr:m.r r with
  | none=>simp [hr,Good] at h
  | some row =>
   have zW:=hx
   obtain ⟨row',τ',ys,cz,he,hc,hu⟩:=hx
   rw [hm.r r row hr] at cz; cases cz
   simp only [hr,hc] at h
   cases hz:Nat.beq (sz τ') (A9 X.P t) with
   | false=>simp [hz,Good] at h
   | true =>
    simp only [hz,Good,Out.r.injEq,reduceCtorEq,false_or,bc,zB,zD] at h
    obtain ⟨⟨h0,h1⟩,rfl⟩:=h
    have hs:=tU hm hR zW (n:=ys.length) (by simp [Lk.vw,hr,ic,hc,Vw.len])
    rcases hs with ⟨_,hn⟩ | ⟨g,o,cap,rfl,hn⟩
    ·omega
    ·exact ⟨_,idx τ' g o _ cap hz h0 h1,row,τ',ys,_,hm.r r row hr,he,hc,hu,by omega,g,o,_,cap,rfl,by simp⟩
 | ns r e c off len =>
  simp only [Lk.q8,Lk.vw,ic] at h
  cases hr:m.r r with
  | none=>simp [hr,Good] at h
  | some row =>
   obtain ⟨row',τ',ys,u,cz,he,hc,hu,hle,rZ⟩:=hx
   rw [hm.r r row hr] at cz; cases cz
   simp only [hr,hc] at h
   cases hz:Nat.beq (sz τ') (A9 X.P t) with
   | false=>simp [hz,Good] at h
   | true =>
    simp only [hz,Good,Out.r.injEq,reduceCtorEq,false_or,bc,zB,zD] at h
    obtain ⟨⟨h0,h1⟩,rfl⟩:=h
    rcases rZ with ⟨_,_,hn⟩ | ⟨g,o,n',cap,o',cap',hb,rfl,VQ,_,_,ho⟩
    ·omega
    ·refine ⟨_,idx τ' g o' len cap' hz h0 h1,row,τ',ys,u,hm.r r row hr,he,hc,hu,by omega,g,o,n',cap,hb,?_⟩
     rcases ho with ho | ho
     ·omega
     ·rw [ho,Nat.add_mul]; simp [Nat.add_assoc]
 | _=>simp [Lk.q8,Good] at h
theorem Pf {t:TypeId} {f n:Nat} {a:Cv} {av:Value} (ha:bq M γ a av) (hf:xS X.P t f=some n) (hz:Nat.beq (fS X.P (Cf X.P t f)) 0=false) (FF:H5 a n≠ .un) :
  ∃ u,(Instr.fieldAt t av f).run X.P w= .ok u w/\bq M γ (H5 a n) u:=by
 obtain ⟨fs,x,hu,hx,rfl⟩:∃ fs x,X.P.underlying t=some (.struct fs)/\fs[f]? =some x/\x.offset=n:=by
  revert hf; simp only [xS]; split
  ·rename_i fs QG
   split
   ·rename_i x hx; intro h; exact ⟨fs,x,QG,hx,by simpa using h⟩
   ·simp
  ·simp
 have Sy:Cf X.P t f=x.type:=by simp [Cf,hu,hx]
 have mi:∃ i,X.P.info? x.type=some i/\i.size≠0:=by
  rw [Sy] at hz
  simp only [fS] at hz
  cases hi:X.P.info? x.type with
  | none=>simp [hi] at hz
  | some i=>exact ⟨i,rfl,fun h0=>by rw [hi] at hz; simp [h0] at hz⟩
 obtain ⟨i,hi,Jy⟩:=mi
 have run:∀ a:Addr,(Instr.fieldAt t (.pointer (some a)) f).run X.P w= .ok (.pointer (some (a.add x.offset))) w:=by
  intro a
  simp [Instr.fieldAt,run_underlying hu,hx,Instr.sureAddr,fieldPlace,oq hi,Jy]
 cases a with
 | pv k c =>
  obtain ⟨h1,rfl⟩:=ha
  exact ⟨_,run _,h1,by rw [jy]⟩
 | pe r e c =>
  obtain ⟨row,h1,h2,g,o,n,cap,h3,rfl⟩:=ha
  exact ⟨_,run _,row,h1,h2,g,o,n,cap,h3,by rw [jy]; simp [Nat.add_assoc]⟩
 | pn r e c k d =>
  obtain ⟨row,τ,ys,u,h1,h2,h3,h4,h5,g,o,n,cap,h6,rfl⟩:=ha
  exact ⟨_,run _,row,τ,ys,u,h1,h2,h3,h4,h5,g,o,n,cap,h6,by rw [jy]; simp [Nat.add_assoc]⟩
 | _=>simp [H5] at FF
theorem ca.length {l:List Cv} {u:List Value} (h:ca M γ l u):l.length=u.length:=by
 induction h with
 | nil=>rfl
 | cons _ _ ih=>simp [ih]
theorem ca.drop {l:List Cv} {u:List Value} (h:ca M γ l u):∀ n,ca M γ (l.drop n) (u.drop n):=by
 induction h with
 | nil=>intro n; simpa using ca.nil
 | cons hx hl ih=>intro n; cases n with
  | zero=>exact .cons hx hl
  | succ n=>simpa using ih n
theorem ca.take {l:List Cv} {u:List Value} (h:ca M γ l u):∀ n,ca M γ (l.take n) (u.take n):=by
 induction h with
 | nil=>intro n; simpa using ca.nil
 | cons hx hl ih=>intro n; cases n with
  | zero=>exact .nil
  | succ n=>simpa using ca.cons hx (ih n)
theorem ca.append {l l':List Cv} {u u':List Value} (h:ca M γ l u) (h':ca M γ l' u'):ca M γ (l++l') (u++u'):=by
 induction h with
 | nil=>exact h'
 | cons hx hl ih=>exact .cons hx ih
theorem ca.get {l:List Cv} {u:List Value} (h:ca M γ l u) {i:Nat} {x:Cv} (hx:l[i]? =some x):∃ v,u[i]? =some v/\bq M γ x v:=by
 induction h generalizing i with
 | nil=>simp at hx
 | cons zW hl ih=>cases i with
  | zero=>simp at hx; subst hx; exact ⟨_,rfl,zW⟩
  | succ i=>exact ih hx
theorem ca.vJ {l:List Cv}:∀ {u:List Value},l.length=u.length->(∀ (i:Nat) (x:Cv) (v:Value),l[i]? =some x->u[i]? =some v->bq M γ x v)->ca M γ l u:=by
 induction l with
 | nil=>intro u hl _; cases u with | nil=>exact .nil | cons=>simp at hl
 | cons x l ih=>intro u hl h; cases u with
  | nil=>simp at hl
  | cons v u=>exact .cons (h 0 x v rfl rfl) (ih (by simpa using hl) fun i x v hx hv=>h (i+1) x v hx hv)
theorem Bw {g o:Nat} {cur:Array Value} {e:TypeId} {fz:Nat×Nat} (h:w.heap[g]? =some (.cells cur e fz)) (i:Nat):w.cell? ⟨g,i,none⟩=cur[i]? :=by
 simp [World.cell?,h]
theorem zz.cell {A:Nat->Prop} {z:Nat} {v:Value} {n:Nat} {cs:List Value} (h:zz A w z v n cs) {g o n' cap:Nat} (hv:v= .slice (some ⟨g,o,none⟩) n' cap) {i:Nat} {u:Value}
  (hu:cs[i]? =some u):w.cell? ⟨g,o+i,none⟩=some u:=by
 rcases h.2 with ⟨hn,_⟩ | ⟨g1,o1,cap1,cur,e,fz,HB,hg,_,_,mi,ht⟩
 ·rw [hn] at hv; cases hv
 ·rw [HB] at hv
  obtain ⟨rfl,rfl⟩:g1=g/\o1=o:=by
   injection hv with h1 _ _; injection h1 with h1; injection h1 with h1 h2 _; exact ⟨h1,h2⟩
  have hi:i<n*z:=by
   have:=(zU.1 hu).1
   rwa [h.1] at this
  rw [Bw (o:=0) hg,← hu,← ht,List.getElem?_take,if_pos hi,List.getElem?_drop,Array.getElem?_toList]
theorem DF (r e:Nat):∀ (l:List Ct) (c i:Nat),(sq r e c l)[i]? =(l[i]?).map (W7 r e (c+i)):=by
 intro l
 induction l with
 | nil=>intro c i; simp [sq]
 | cons x l ih=>intro c i; cases i with
  | zero=>simp [sq]
  | succ i=>simp [sq,ih,Nat.add_assoc,Nat.add_comm 1]
theorem wc (r e:Nat):∀ (l:List Ct) (c:Nat),(sq r e c l).length=l.length:=by
 intro l
 induction l with
 | nil=>intro c; rfl
 | cons x l ih=>intro c; simp [sq,ih]
theorem MB (hR:Rel X M γ w) {r e:Nat} {row:Row} (hr:M.r r=some row) (he:e<row.xs.length) :
  ca M γ (sq r e 0 (row.cs e)) (((γ.cv r).drop (e*sz row.τ)).take (sz row.τ)):=by
 have hl:(γ.cv r).length=row.xs.length*sz row.τ:=(hR.rs r row hr).top.zb.1
 have hle:(e+1)*sz row.τ<=row.xs.length*sz row.τ:=zP _ he
 rw [Nat.add_mul] at hle
 have Nd:(row.cs e).length=sz row.τ:=bd _ _
 apply ca.vJ
 ·rw [wc,Nd,List.length_take,List.length_drop]; omega
 ·intro i x v hx hv
  rw [DF,Nat.zero_add] at hx
  cases hc:(row.cs e)[i]? with
  | none=>simp [hc] at hx
  | some ct =>
   simp [hc] at hx; subst hx
   obtain ⟨u,hu,K3⟩:=(hR.rs r row hr).rG e i ct he hc
   have hi:i<sz row.τ:=by have:=(zU.1 hc).1; rwa [Nd] at this
   have:v=u:=by
    rw [List.getElem?_take,if_pos hi,List.getElem?_drop,hu] at hv; exact (Option.some.inj hv).symm
   subst this
   cases ct with
   | u=>exact K3.elim
   | l τ ys=>exact ⟨row,τ,ys,hr,he,hc,hu⟩
   | _=>exact K3
theorem I5 {τ:Ty} (hd:τ.deep=false) (y:El τ):ca M γ (sq 0 0 0 (cells τ y)) ((cells τ y).map gu):=by
 apply ca.vJ
 ·rw [wc,List.length_map]
 ·intro i x v hx hv
  rw [DF] at hx
  rw [List.getElem?_map] at hv
  cases hc:(cells τ y)[i]? with
  | none=>simp [hc] at hx
  | some ct =>
   simp [hc] at hx hv; subst hx; subst hv
   have hm:=List.mem_of_getElem? hc
   cases ct with
   | u=>exact absurd hm (ye _)
   | l σ ys=>exact absurd rfl (oM hd _ _ hm σ ys)
   | _=>rfl
theorem KE (hm:Le m M) (hR:Rel X M γ w) {a:Cv} {av:Value} (ha:bq M γ a av) {cs:List Cv} (h:m.from a=some cs) :
  ∃ g o us,av= .pointer (some ⟨g,o,none⟩)/\ca M γ cs us/\∀ j u,us[j]? =some u->w.cell? ⟨g,o+j,none⟩=some u:=by
 cases a with
 | pv k c =>
  simp only [Lk.from] at h
  cases hv:m.v k with
  | none=>simp [hv] at h
  | some cells =>
   simp only [hv,zA] at h; subst h
   obtain ⟨_,rfl⟩:=ha
   obtain ⟨_,cur,e,hg,oT⟩:=hR.vs k cells (hm.v k cells hv)
   refine ⟨_,_,cur.toList.drop c,rfl,oT.drop c,fun j u hu=> ?_⟩
   rw [Bw (o:=0) hg]; simpa using hu
 | pe r e c =>
  simp only [Lk.from] at h
  cases hr:m.r r with
  | none=>simp [hr] at h
  | some row =>
   simp only [hr,zA] at h; subst h
   obtain ⟨row',cz,he,g,o,n,cap,hb,rfl⟩:=ha
   have fL:=hm.r r row hr
   rw [fL] at cz; cases cz
   refine ⟨_,_,_,rfl,(MB hR fL he).drop c,fun j u hu=> ?_⟩
   rw [List.getElem?_drop,List.getElem?_take] at hu
   split at hu
   ·rw [List.getElem?_drop] at hu
    have:=(hR.rs r row fL).top.zb.cell hb hu
    rw [← this]; congr 2; omega
   ·cases hu
 | pn r e c k d =>
  simp only [Lk.from,Lk.vw,ic] at h
  cases hr:m.r r with
  | none=>simp [hr] at h
  | some row =>
   obtain ⟨row',τ',ys,u,cz,he,hc,hu,hk,g,o,n,cap,hb,rfl⟩:=ha
   have fL:=hm.r r row hr
   rw [fL] at cz; cases cz
   simp only [hr,hc] at h
   obtain ⟨u',oU,hd,hs⟩:=(hR.rs r row fL).rG e c _ he hc
   rw [hu] at oU; cases oU
   simp only [hd,zA] at h; subst h
   refine ⟨_,_,_,rfl,(I5 hd _).drop d,fun j v hv=> ?_⟩
   rw [List.getElem?_drop,List.getElem?_map] at hv
   cases de:(cells τ' (ys.getD k (ch τ')))[d+j]? with
   | none=>rw [de] at hv; simp at hv
   | some ct =>
    have XN:d+j<sz τ':=by have:=(zU.1 de).1; rwa [bd] at this
    have hf:=fm τ' ys k (d+j) hk XN
    rw [de] at hf hv
    simp at hv; subst hv
    have:=hs.zb.cell hb hf
    rw [← this]; congr 2; omega
 | _=>simp [Lk.from] at h
theorem yt {P:Program} {t:TypeId} {d:TypeDesc} (h:P.underlying t=some d):∃ i,P.info? t=some i:=by
 cases hi:P.info? t with
 | some i=>exact ⟨i,rfl⟩
 | none=>exfalso; revert h; simp [Program.underlying,hi]
theorem GG {P:Program} {t:TypeId} {w:World} {i:TypeInfo} (hi:P.info? t=some i) (hu:∃ d,P.underlying t=some d):(isAgg t).run P w= .ok (Az P t) w:=by
 obtain ⟨d,hd⟩:=hu
 simp only [isAgg,Sem.run_bind,run_underlying hd,Result.andThen_ok,Az,hd]
 cases d<;>rfl
theorem GR {P:Program} {t:TypeId} (h:CH P t=true):(∃ d,P.underlying t=some d)/\(Az P t=false->fS P t=1):=by
 simp only [CH] at h
 simp only [Az]
 cases hd:P.underlying t with
 | none=>simp [hd] at h
 | some d =>
  refine ⟨⟨d,rfl⟩,fun ha=> ?_⟩
  rw [hd] at h
  cases d<;>first | (exact aG h) | (simp at ha)
theorem Km (hm:Le m M) (hR:Rel X M γ w) {t:TypeId} {a:Cv} {av:Value} (ha:bq M γ a av) {cs:List Cv} (h:m.from a=some cs) (hz:Nat.ble (fS X.P t) cs.length=true)
  (VE:CH X.P t=true):∃ u,(Instr.loadAt t av).run X.P w= .ok u w/\bk M γ (UN (Az X.P t) (cs.take (fS X.P t))) u:=by
 obtain ⟨g,o,us,rfl,oT,eG⟩:=KE hm hR ha h
 obtain ⟨⟨d,hd⟩,gZ⟩:=GR VE
 obtain ⟨i,hi⟩:=yt hd
 have mi:fS X.P t=i.size:=by simp [fS,hi]
 have hz:fS X.P t<=cs.length:=zQ hz
 rw [mi] at hz gZ ⊢
 have hlen:=oT.length
 simp only [Instr.loadAt,Instr.sureAddr,loadVar,Sem.run_bind,Sem.run_pure,Result.andThen_ok,GG hi ⟨d,hd⟩]
 cases No:Az X.P t with
 | true =>
  simp only [if_true,Sem.run_bind,oq hi,Result.andThen_ok]
  have KN:(loadCells ⟨g,o,none⟩ i.size).run X.P w= .ok (us.take i.size).toArray w:=by
   have:=run_loadCells_list (P:=X.P) w ⟨g,o,none⟩ (us.take i.size) (fun j v hj=>by
    rw [jy]
    rw [List.getElem?_take] at hj
    split at hj
    ·exact eG j v hj
    ·cases hj)
   rwa [show (us.take i.size).length=i.size by rw [List.length_take]; omega] at this
  rw [KN]
  exact ⟨_,rfl,_,rfl,oT.take _⟩
 | false =>
  simp only [Bool.false_eq_true,if_false]
  have h1:=gZ No
  rw [h1] at hz ⊢
  cases us with
  | nil=>simp at hlen; subst hlen; simp at hz
  | cons u us =>
   cases oT with
   | cons hx hl =>
    refine ⟨u,?_,bk.of hx⟩
    have:=eG 0 u rfl
    rw [Nat.add_zero] at this
    simp [this]
theorem wN.one {v:Value} {n:Nat} (h:wN v n):v.oneCell'=true:=by
 rcases h with ⟨rfl,rfl⟩ | ⟨g,o,cap,rfl,_⟩<;>rfl
theorem bq.one (hR:Rel X M γ w) {x:Cv} {v:Value} (h:bq M γ x v):v.oneCell'=true:=by
 cases x with
 | un=>exact h
 | b x=>have h:v=_:=h; subst h; rfl
 | i k n=>have h:v=_:=h; subst h; rfl
 | s x=>have h:v=_:=h; subst h; rfl
 | nl τ=>have h:v=_:=h; subst h; rfl
 | sw r=>obtain ⟨⟨row,hr⟩,rfl⟩:=h; exact (hR.rs r row hr).top.zb.Ja.one
 | sl r off len=>obtain ⟨_,_,_,hs⟩:=h; exact (wN.sub (n:=0) hs).one
 | nw r e c =>
  obtain ⟨row,τ,ys,hr,he,hc,hu⟩:=h
  obtain ⟨u',oU,eG⟩:=(hR.rs r row hr).rG e c _ he hc
  rw [hu] at oU; cases oU
  exact eG.2.zb.Ja.one
 | ns r e c off len=>obtain ⟨_,_,_,_,_,_,_,_,_,hs⟩:=h; exact (wN.sub (n:=0) hs).one
 | pv k c=>obtain ⟨_,rfl⟩:=h; rfl
 | pe r e c=>obtain ⟨_,_,_,_,_,_,_,_,rfl⟩:=h; rfl
 | pn r e c k d=>obtain ⟨_,_,_,_,_,_,_,_,_,_,_,_,_,_,rfl⟩:=h; rfl
 | fn f caps=>obtain ⟨_,rfl⟩:=h; rfl
theorem Dw {v:Value} (h:v.oneCell'=true):v.cells= #[v]:=by cases v<;>first | rfl | simp [Value.oneCell'] at h
theorem qi (hR:Rel X M γ w) {x:AV} {v:Value} {cs:List Cv} (hx:bk M γ x v) (h:x.cells=some cs):ca M γ cs v.cells.toList:=by
 cases x with
 | c y =>
  have:y≠ .un/\cs=[y]:=by cases y<;>simp_all [AV.cells]
  obtain ⟨hy,rfl⟩:=this
  have hy:=bk.to hx hy
  rw [Dw (hy.one hR)]
  exact .cons hy .nil
 | a l =>
  simp only [AV.cells,zA] at h; subst h
  obtain ⟨us,rfl,hr⟩:=hx
  simpa [Value.cells] using hr
 | _=>simp [AV.cells] at h
theorem ca.one (hR:Rel X M γ w) {l:List Cv} {u:List Value} (h:ca M γ l u):∀ v∈u,v.oneCell'=true:=by
 induction h with
 | nil=>simp
 | cons hx hl ih=>intro v hv; rcases zI.1 hv with rfl | hv; exact hx.one hR; exact ih v hv
theorem Ms {t:TypeId} {f n:Nat} {l:List Cv} {xv:Value} (hx:bk M γ (.a l) xv) (hf:xS X.P t f=some n)
  (hz:Nat.ble (n+fS X.P (Cf X.P t f)) l.length=true) (VE:CH X.P (Cf X.P t f)=true) :
  ∃ u,(Instr.field t xv f).run X.P w= .ok u w/\bk M γ (UN (Az X.P (Cf X.P t f)) ((l.drop n).take (fS X.P (Cf X.P t f)))) u:=by
 obtain ⟨fs,x,hu,zW,rfl⟩:∃ fs x,X.P.underlying t=some (.struct fs)/\fs[f]? =some x/\x.offset=n:=by
  revert hf; simp only [xS]; split
  ·rename_i fs QG
   split
   ·rename_i x hx; intro h; exact ⟨fs,x,QG,hx,by simpa using h⟩
   ·simp
  ·simp
 have Sy:Cf X.P t f=x.type:=by simp [Cf,hu,zW]
 rw [Sy] at hz VE ⊢
 obtain ⟨⟨d,hd⟩,gZ⟩:=GR VE
 obtain ⟨i,hi⟩:=yt hd
 have mi:fS X.P x.type=i.size:=by simp [fS,hi]
 have hz:x.offset+fS X.P x.type<=l.length:=zQ hz
 rw [mi] at hz gZ ⊢
 obtain ⟨us,rfl,oT⟩:=hx
 have hlen:=oT.length
 simp only [Instr.field,Sem.run_bind,run_underlying hu,Result.andThen_ok,zW,asAgg,Sem.run_pure,part,GG hi ⟨d,hd⟩]
 cases No:Az X.P x.type with
 | true =>
  simp only [if_true,Sem.run_bind,oq hi,Result.andThen_ok,Sem.run_pure]
  refine ⟨_,rfl,((us.drop x.offset).take i.size),?_,(oT.drop _).take _⟩
  congr 1
  apply Array.toList_inj.1
  simp [List.extract_eq_take_drop]
 | false =>
  simp only [Bool.false_eq_true,if_false]
  rw [gZ No] at hz ⊢
  have h2:=(oT.drop x.offset)
  have h3:(l.drop x.offset).length=l.length-x.offset:=List.length_drop
  cases Ck:l.drop x.offset with
  | nil=>rw [Ck] at h3; simp at h3; omega
  | cons y rest =>
   rw [Ck] at h2
   cases hdu:us.drop x.offset with
   | nil=>rw [hdu] at h2; cases h2
   | cons u us' =>
    rw [hdu] at h2
    cases h2 with
    | cons hy _ =>
     have:us[x.offset]? =some u:=by
      have:=congrArg (fun l=>l[0]?) hdu
      simpa [List.getElem?_drop] using this
     refine ⟨u,by simp [this],bk.of hy⟩
theorem Rr {l:List (Bool×List Cv)} {us:List Value} (h:sb M γ l us) {i:Nat} {p:Bool×List Cv} (hp:l[i]? =some p):∃ u,us[i]? =some u/\O2 M γ p u:=by
 induction h generalizing i with
 | nil=>simp at hp
 | cons hx hl ih=>cases i with
  | zero=>simp at hp; subst hp; exact ⟨_,rfl,hx⟩
  | succ i=>exact ih hp
theorem Is {l:List (Bool×List Cv)} {xv:Value} (hx:bk M γ (.t l) xv) {i:Nat} {b:Bool} {cs:List Cv} (h:nth l i=some (b,cs)) :
  ∃ u,(Instr.extract xv i).run X.P w= .ok u w/\bk M γ (UN b cs) u:=by
 obtain ⟨us,rfl,hr⟩:=hx
 rw [ic] at h
 obtain ⟨u,hu,vs,hv,h1,h2⟩:=Rr hr h
 refine ⟨u,by simp [Instr.extract,hu],?_⟩
 cases b with
 | true=>exact ⟨vs,h1 rfl,hv⟩
 | false =>
  have:=h2 rfl
  subst this
  cases hv with
  | cons hx hl=>cases hl; exact bk.of hx
theorem RW {t ty:TypeId} {a:ByteArray} (ht:isStr X.P t=true):(Builtin.len_ #[t] (ty:TypeId) #[.string a]).run X.P w= .ok (.int .i64 a.size) w:=by
 have pS:X.P.underlying t=some .string:=by
  revert ht; simp only [isStr]; split
  ·exact fun _=>by assumption
  ·simp
 simp [Builtin.len_,run_underlying pS,goInt]
theorem Q7 {t ty:TypeId} {a:Option Addr} {n cap:Nat} (ht:Hb X.P t=true):(Builtin.len_ #[t] (ty:TypeId) #[.slice a n cap]).run X.P w= .ok (.int .i64 n) w:=by
 obtain ⟨e,he⟩:∃ e,X.P.underlying t=some (.slice e):=by
  revert ht; simp only [Hb]; split
  ·exact fun _=>⟨_,by assumption⟩
  ·simp
 simp [Builtin.len_,run_underlying he,goInt]
theorem wN.slice {v:Value} {n:Nat} (h:wN v n):∃ a cap,v= .slice a n cap:=by
 rcases h with ⟨rfl,rfl⟩ | ⟨g,o,cap,rfl,_⟩
 ·exact ⟨_,_,rfl⟩
 ·exact ⟨_,_,rfl⟩
theorem Lr {t:TypeId} {a:ByteArray} {k:IntKind} {i:Int} (ht:isStr X.P t=true) (hi:bc i a.size=true):(Instr.index t (.string a) (.int k i)).run X.P w= .ok (.int .u8 (bt a i.toNat)) w:=by
 have pS:X.P.underlying t=some .string:=by
  revert ht; simp only [isStr]; split
  ·exact fun _=>by assumption
  ·simp
 simp only [bc,zB,zD] at hi
 have h1:i.toNat<a.size:=by omega
 have h2:a[i.toNat]? =some a[i.toNat]:=getElem?_pos a i.toNat h1
 simp [Instr.index,asIntOf,run_underlying pS,hi.1,h2]
 have h3:i.toNat<a.data.size:=h1
 simp only [bt,Array.getD,dif_pos h3]
 rfl
theorem Rg {op:UnOp} {x:AV} {xv:Value} {v:AV} (hx:bk M γ x xv) (h:Good (V4 op x) v):∃ u,(Op.unary op xv).run X.P w= .ok u w/\bk M γ v u:=by
 cases op<;>cases x<;>try (simp [V4,Good] at h; done)
 case not.c x =>
  cases x<;>simp [V4,Good] at h
  subst h; have hx:xv= .bool _:=hx; subst hx; exact ⟨_,rfl,rfl⟩
 case neg.c x =>
  cases x<;>simp [V4,Good] at h
  subst h; have hx:xv= .int _ _:=hx; subst hx; exact ⟨_,rfl,by show _=_; simp⟩
theorem FV {t u:TypeId} {k k':IntKind} {n:Int} {du dt:TypeDesc} (ht:X.P.underlying t=some dt) (hu:X.P.underlying u=some (.int k)) :
  (convert t u (.int k' n)).run X.P w= .ok (.int k (k.wrap n)) w:=by
 simp only [convert,Sem.run_bind,run_underlying ht,run_underlying hu,Result.andThen_ok]
 cases dt<;>rfl
theorem g5 {α:Type} (l m:List α) (c:Nat) (h:c+m.length<=l.length):(cQ l c m).length=l.length:=by
 simp [cQ]; omega
theorem ca.cQ {l l':List Cv} {u u':List Value} (h:ca M γ l u) (h':ca M γ l' u') (c:Nat):ca M γ (Soft.cQ l c l') (Soft.cQ u c u'):=by
 simp only [Soft.cQ,← h'.length]
 exact ((h.take _).append h').append (h.drop _)
theorem F9 (off:Nat):∀ (vs:List Value) (k:Nat) (acc:Array Value),off+k+vs.length<=acc.size ->
  ((vs.zipIdx k).foldl (fun cs (p:Value×Nat)=>cs.setIfInBounds (off+p.2) p.1) acc).toList=Soft.cQ acc.toList (off+k) vs:=by
 intro vs
 induction vs with
 | nil=>intro k acc h; simp [Soft.cQ]
 | cons v vs ih =>
  intro k acc h
  simp only [List.zipIdx_cons,List.foldl_cons,zR] at h ⊢
  rw [ih (k+1) _ (by simp; omega)]
  simp only [Soft.cQ,Array.toList_setIfInBounds,zR]
  have h1:off+k<acc.toList.length:=by simp; omega
  apply List.ext_getElem?
  intro i
  simp only [List.getElem?_append,zK,List.length_take,List.length_set,zR,List.getElem?_take,List.getElem?_drop,List.getElem?_set]
  rcases Nat.lt_trichotomy i (off+k) with hi | hi | hi
  ·simp [show i<min (off+(k+1)) acc.toList.length by omega,show i<off+(k+1) by omega,show i<off+k by omega,show i<min (off+k) acc.toList.length by omega,show ¬ off+k=i by omega]
   grind
  ·subst hi
   simp [show off+k<min (off+(k+1)) acc.toList.length by omega,show ¬ off+k<min (off+k) acc.toList.length by omega]
   grind
  ·grind
theorem Ut {x:Cv} {v:Value} (h:Xa x v=true):bq M γ x v:=by
 cases x<;>cases v<;>simp_all [Xa,bq,Value.oneCell']
 case b x y=>cases x<;>cases y<;>simp_all [Xa]
 case i k n k' n' =>
  obtain ⟨h1,h2⟩:=h
  have:=qN h1
  split at h2
  ·rename_i h3 h4; exact ⟨this.symm,rfl⟩
  ·cases h2
 case nl τ a n c =>
  revert h; cases a<;>cases n<;>cases c<;>simp [Xa]
theorem Q2 {l:List Cv}:∀ {u:List Value},Lh l u=true->ca M γ l u:=by
 induction l with
 | nil=>intro u h; cases u with | nil=>exact .nil | cons=>simp [Lh] at h
 | cons x l ih=>intro u h; cases u with
  | nil=>simp [Lh] at h
  | cons v u=>simp only [Lh,zB] at h; exact .cons (Ut h.1) (ih h.2)
theorem J3 {t:TypeId} {cs:List Cv} (h:X.zero t=some cs):∃ i z,X.P.info? t=some i/\i.zero=some z/\ca M γ cs z.cells.toList:=by
 simp only [Ctx.zero] at h
 revert h; split
 ·rename_i cs' i h1 h2
  split
  ·rename_i z hz
   split
   ·rename_i hq; intro h; cases h; exact ⟨i,z,h2,hz,Q2 hq⟩
   ·simp
  ·simp
 ·simp
theorem Se (hR:Rel X M γ w) {t:TypeId} {f:Operand->AV} (hf:∀ o,bk M γ (f o) (ρ o)) {place:Nat->Option (Nat×Nat)}
  (hp:∀ i off,xS X.P t i=some off->place i=some (off,fS X.P (Cf X.P t i))) :
  ∀ (parts:List (Nat×Operand)) (acc cs:List Cv) (zs:Array Value),ca M γ acc zs.toList->AH X t f parts acc=some cs ->
   ∃ arr,Instr.fill place zs (parts.map fun p=>(p.1,ρ p.2))=some arr/\ca M γ cs arr.toList:=by
 intro parts
 induction parts with
 | nil=>intro acc cs zs hz h; simp only [AH,zA] at h; subst h; exact ⟨zs,rfl,hz⟩
 | cons p parts ih =>
  obtain ⟨i,o⟩:=p
  intro acc cs zs hz h
  simp only [AH] at h
  cases ho:xS X.P t i with
  | none=>simp [ho] at h
  | some off =>
   cases hc:(f o).cells with
   | none=>simp [ho,hc] at h
   | some cs' =>
    simp only [ho,hc] at h
    cases h1:Nat.ble (off+cs'.length) acc.length with
    | false=>simp [h1] at h
    | true =>
     cases h2:Nat.beq cs'.length (fS X.P (Cf X.P t i)) with
     | false=>simp [h1,h2] at h
     | true =>
      simp only [h1,h2] at h
      have h1:=zQ h1
      have h2:=aG h2
      have hr:=qi hR (hf o) hc
      have hl:=hr.length
      have FG:=hz.length
      simp only [Array.length_toList] at hl FG
      simp only [List.map_cons,Instr.fill,hp i off ho]
      rw [if_neg (by simp; omega)]
      apply ih _ _ _ _ h
      have:=F9 off (ρ o).cells.toList 0 zs (by simp; omega)
      rw [Nat.add_zero] at this
      have e:(Array.foldl (fun cs (x:Value×Nat)=>cs.setIfInBounds (off+x.2) x.1) zs (ρ o).cells.zipIdx).toList=Soft.cQ zs.toList off (ρ o).cells.toList:=by
       rw [← this,← Array.foldl_toList,Array.toList_zipIdx]
      rw [e]
      exact hz.cQ hr off
theorem DJ {P:Program}:∀ (fs:List Field),GW P fs=true->fs.mapM (fun f=>(P.info? f.type).map fun i=>(f.offset,i.size))=some (fs.map fun f=>(f.offset,fS P f.type))
 | [],_=>rfl
 | f::fs,h=>by
  simp only [GW] at h
  cases hi:P.info? f.type with
  | none=>simp [hi] at h
  | some i =>
   simp only [hi] at h
   simp [List.mapM_cons,hi,DJ fs h,fS]
theorem Oe (hR:Rel X M γ w) {t:TypeId} {parts:Array (Nat×Operand)} {f:Operand->AV} (hf:∀ o,bk M γ (f o) (ρ o)) {zs cs:List Cv} (hz:X.zero t=some zs) (hp:RM X.P t=true)
  (h:AH X t f parts.toList zs=some cs):∃ u,(Instr.build t (parts.map fun (i,x)=>(i,ρ x))).run X.P w= .ok u w/\bk M γ (.a cs) u:=by
 obtain ⟨i,z,hi,Zk,hr⟩:=J3 (M:=M) (γ:=γ) hz
 obtain ⟨fs,hu,Hs⟩:∃ fs,X.P.underlying t=some (.struct fs)/\GW X.P fs.toList=true:=by
  revert hp; simp only [RM]; split
  ·rename_i fs QG; exact fun h=>⟨fs,QG,h⟩
  ·simp
 have Vu:∀ i off,xS X.P t i=some off->((fs.toList.map fun f=>(f.offset,fS X.P f.type)).toArray[i]?)=some (off,fS X.P (Cf X.P t i)):=by
  intro i off ho
  simp only [xS,hu] at ho
  cases hx:fs[i]? with
  | none=>simp [hx] at ho
  | some x =>
   simp only [hx,zA] at ho
   simp [Cf,hu,hx,ho]
 obtain ⟨arr,ha,oT⟩:=Se hR hf Vu parts.toList zs cs z.cells hr h
 refine ⟨.agg arr,run_build w t _ arr ?_,arr.toList,by simp,oT⟩
 simp only [Program.built,hi,hu,Zk,DJ _ Hs]
 rw [← ha,Array.toList_map]
theorem Rz {S:St} {a:Act} (hT:∀ t av,lk S.tm t=some av->bk M γ av (a.tmps.getD t undef)) (p:List (Nat×Bool))
  (hp:∀ t p' q v,lk S.tm t=some (.g p' q v)->BY p' p=true->q=true) (ty:TypeId) (o:Operand):bk M γ (X.xV S p ty o) (a.eval o):=by
 cases o with
 | tmp t =>
  simp only [Ctx.xV,St.get,Act.eval]
  cases h:lk S.tm t with
  | none=>exact trivial
  | some av =>
   have hr:=hT t av h
   cases av with
   | g p' q v =>
    simp only
    cases hi:BY p' p with
    | true=>simp only [hi]; exact hr.1 (hp t p' q v h hi)
    | false=>simp only [hi]; exact trivial
   | _=>exact hr
 | const v =>
  simp only [Ctx.xV,Act.eval]
  cases v<;>simp only [Ctx.cst]<;>first | exact trivial | rfl | skip
  rename_i a n c
  cases a<;>try exact trivial
  cases n<;>cases c<;>try exact trivial
  cases hτ:X.WT ty<;>simp only [hτ]<;>first | exact trivial | rfl
 | func f=>exact ⟨by simp,by simp [Act.eval]⟩
 | global g=>exact trivial
end Go.Soft
namespace Go.Soft
open Go
variable {X:Ctx} {m M:Lk} {γ:Gh} {w:World} {ρ:Operand->Value}
def Pure (X:Ctx) (M:Lk) (γ:Gh) (w:World) (ρ:Operand->Value) (o:Oper) (v:AV):Prop :=
 ∃ u,(Go.execOp ρ o).run X.P w= .ok (.value u) w/\bk M γ v u
theorem Pure.of {o:Oper} {v:AV} {s:Sem Value} (he:Go.execOp ρ o=(do let x←s; pure (.value x))) (h:∃ u,s.run X.P w= .ok u w/\bk M γ v u):Pure X M γ w ρ o v:=by
 obtain ⟨u,hu,hr⟩:=h
 exact ⟨u,by rw [he,Sem.run_bind,hu]; rfl,hr⟩
theorem Oi {c:Bool} {v v':AV} (h:Good (.r c v') v):c=true/\v'=v:=by
 simpa [Good] using h
theorem dI {v v':AV} (h:Good (.r0 v') v):v'=v:=by
 simpa [Good] using h
theorem kF {v:AV} (h:Good .no v):False:=by simp [Good] at h
theorem Ns (hX:iy X) {op:BinOp} {t:TypeId} {x y:AV} {xo yo:Operand} {xv yv:Value} {v:AV} (hx:bk M γ x xv) (hy:bk M γ y yv)
  (h:Good (X.ER op t x y) v) :
  ∃ u,(do eqGuard op t xo yo xv yv; Go.binOp op t xv yv:Sem Value).run X.P w= .ok u w/\bk M γ v u:=by
 cases x with
 | c x =>
  cases x with
  | b a =>
   have hx:xv= .bool a:=hx
   subst hx
   simp only [Ctx.ER] at h
   cases ht:X.P.underlying t with
   | none=>simp [ht,Good] at h
   | some d=>cases d<;>first | exact RQ ht hy (by simpa [ht] using h) | (simp [ht,Good] at h)
  | i k a =>
   have hx:xv= .int k a:=hx
   subst hx
   simp only [Ctx.ER] at h
   cases y with
   | c y =>
    cases y with
    | i k' b =>
     have hy:yv= .int k' b:=hy
     subst hy
     cases hk:Fy k k' with
     | true=>have:=qN hk; subst this; exact Uc h
     | false=>exact O8 hk h
    | _=>simp [mE,Good] at h
   | _=>simp [mE,Good] at h
  | s a =>
   have hx:xv= .string a:=hx
   subst hx
   simp only [Ctx.ER] at h
   cases y with
   | c y =>
    cases y with
    | s b=>have hy:yv= .string b:=hy; subst hy; exact UW h
    | _=>simp [mE,Good] at h
   | _=>simp [mE,Good] at h
  | _=>simp [Ctx.ER,mE,Good] at h
 | a l =>
  simp only [Ctx.ER] at h
  cases ht:lk X.eqs t with
  | none=>rw [ht] at h; simp [Good] at h
  | some ks =>
   cases y with
   | a m =>
    simp only [ht] at h
    cases hk:m4 ks l&&m4 ks m with
    | false=>rw [hk] at h; simp [Good] at h
    | true =>
     rw [hk] at h
     simp only [zB] at hk
     exact Uo hX ht hk.1 (fun m' e=>by cases e; exact hk.2) hx hy h
   | _=>simp [ht,Good] at h
 | _=>simp [Ctx.ER,mE,Good] at h
theorem vX {x:AV} {v:Value} {n:Int} (hx:bk M γ x v) (h:x.int=some n):∃ k,v= .int k n:=by
 cases x with
 | c y=>cases y<;>simp [AV.int] at h; subst h; exact ⟨_,hx⟩
 | _=>simp [AV.int] at h
theorem H2 (xs:List UInt8):fW .byte xs=xs.map (Value.int .u8∘fun x=>(x.toNat:Int)):=by
 induction xs with
 | nil=>rfl
 | cons x xs ih=>simp only [fW,List.flatMap_cons] at ih ⊢; rw [ih]; rfl
theorem MC (xs:List UInt8):(xs.map fun x=>(x.toNat:Int)).foldl (fun r n=>r.push (UInt8.ofNat n.toNat)) ByteArray.empty=⟨xs.toArray⟩:=by
 have:∀ (xs:List UInt8) (acc:List UInt8),(xs.map fun x=>(x.toNat:Int)).foldl (fun (r:ByteArray) n=>r.push (UInt8.ofNat n.toNat)) ⟨acc.toArray⟩=⟨(acc++xs).toArray⟩:=by
  intro xs
  induction xs with
  | nil=>intro acc; simp
  | cons x xs ih =>
   intro acc
   have h1:(ByteArray.push ⟨acc.toArray⟩ (UInt8.ofNat ((x.toNat:Int)).toNat))=⟨(acc++[x]).toArray⟩:=by
    simp [ByteArray.push]
   rw [List.map_cons,List.foldl_cons,h1,ih]
   simp
 exact this xs []
theorem NN (hm:Le m M) (hR:Rel X M γ w) {a:Cv} {av:Value} (ha:bq M γ a av) {xs:List UInt8} (h:bytesOf (m.vw a)=some xs) :
  (Conv.bytesToString av).run X.P w= .ok (.string ⟨xs.toArray⟩) w:=by
 have de:(m.vw a).ct=some (.l .byte xs):=by
  revert h; cases hv:m.vw a with
  | no=>simp [bytesOf]
  | w τ ys=>cases τ<;>simp [bytesOf,Vw.ct]
  | p τ ys off len=>cases τ<;>simp [bytesOf,Vw.ct]
 obtain ⟨⟨cs,mh⟩,_⟩:=As hm hR ha de
 have zX:=mh.flat rfl
 rcases mh.top.2 with ⟨rfl,h0⟩ | ⟨g,o,cap,cur,e,fz,rfl,hg,_,_,mi,ht⟩
 ·cases xs with
  | nil=>rfl
  | cons=>simp at h0
 ·have iX:cs=(xs.map fun x=>(x.toNat:Int)).map (Value.int .u8):=by
   rw [zX,List.map_map]; exact H2 xs
  have KN:=run_loadCells_list (P:=X.P) w ⟨g,o,none⟩ cs (fun j v hj=>by rw [jy]; exact mh.top.cell rfl hj)
  have hl:cs.length=xs.length:=by rw [iX]; simp
  rw [hl] at KN
  rw [run_bytesToString w ⟨g,o,none⟩ xs.length cap _ (iX▸KN)]
  congr 2
  exact MC xs
theorem Rf (hm:Le m M) (hR:Rel X M γ w) {t u:TypeId} {x:AV} {xv:Value} {v:AV} (hx:bk M γ x xv) (h:Good (X.JK m t u x) v) :
  ∃ y,(convert t u xv).run X.P w= .ok y w/\bk M γ v y:=by
 simp only [Ctx.JK] at h
 revert h; split
 ·rename_i _ _ _ dt k k' n ht hu
  intro h; have:=dI h; subst this
  have hx:xv= .int _ _:=hx
  subst hx
  exact ⟨_,FV (du:=dt) ht hu,rfl⟩
 ·rename_i _ _ _ e a ht hu
  split
  ·rename_i xs hb he
   intro h; have:=dI h; subst this
   have hr:=bk.to hx (by rintro rfl; simp [Lk.vw,bytesOf] at hb)
   obtain ⟨n,hlen⟩:∃ n,(m.vw a).len=some n:=by
    revert hb; cases m.vw a with
    | no=>simp [bytesOf]
    | w τ ys=>exact fun _=>⟨_,rfl⟩
    | p τ ys off len=>exact fun _=>⟨_,rfl⟩
   obtain ⟨a',cap,rfl⟩:=(tU hm hR hr hlen).slice
   refine ⟨_,?_,rfl⟩
   rw [run_convert_bytes_string w t u e _ _ _ ht he hu]
   exact NN hm hR hr hb
  ·exact fun h=>(kF h).elim
 ·exact fun h=>(kF h).elim
theorem J5 {f:Operand->AV} (hf:∀ o,bk M γ (f o) (ρ o)):∀ (l:List Operand) (vs:List Nat),yk f l=some vs ->
  l.map ρ=vs.map (fun k=>Value.pointer (some ⟨γ.vb k,0,none⟩))/\∀ k∈vs,∃ cs,M.v k=some cs
 | [],vs,h=>by simp only [yk,zA] at h; subst h; simp
 | o::l,vs,h=>by
  simp only [yk] at h
  revert h; split
  ·rename_i v r hv hr
   intro h; cases h
   obtain ⟨h1,h2⟩:=J5 hf l r hr
   have:=hf o; rw [hv] at this
   obtain ⟨h3,h4⟩:=this
   simp [h1,h4,h3]
   exact h2
  ·simp
theorem OI {k:IntKind} (a b:Int):(Builtin.max2 (.int k a) (.int k b)).run X.P w= .ok (.int k (max a b)) w:=by
 simp only [Builtin.max2]
 show Result.ok _ _=_
 congr 2; split<;>omega
theorem OV {k:IntKind} (a b:Int):(Builtin.min2 (.int k a) (.int k b)).run X.P w= .ok (.int k (min a b)) w:=by
 simp only [Builtin.min2]
 show Result.ok _ _=_
 congr 2; split<;>omega
theorem J7 {f:Operand->AV} (hf:∀ o,bk M γ (f o) (ρ o)) {lo:Option Operand} {l:Option Int} (h:Io f lo=some l):∃ k,lo.map ρ=l.map (Value.int k):=by
 cases lo with
 | none=>simp only [Io,zA] at h; subst h; exact ⟨.i64,rfl⟩
 | some o =>
  simp only [Io] at h
  cases hi:(f o).int with
  | none=>simp [hi] at h
  | some n =>
   simp only [hi,zA] at h; subst h
   obtain ⟨k,hk⟩:=vX (hf o) hi
   exact ⟨k,by simp [hk]⟩
theorem R8 {m:Lk} {τ:Ty} {d:Nat} {x y:Cv} {v:AV}:¬ Good (m.append τ d x y) v:=by
 intro h
 simp only [Lk.append] at h
 repeat' (first | (split at h) | (simp [Good] at h; done))
theorem Mr {m:Lk} {x:Cv} {l:List Cv} {v:AV}:¬ Good (m.store x l) v:=by
 intro h
 simp only [Lk.store] at h
 repeat' (first | (split at h) | (simp [Good] at h; done))
theorem Ot {f:Int->Int->Int} {x y:AV} {xv yv:Value} {v:AV} (hx:bk M γ x xv) (hy:bk M γ y yv) (h:Good (V7 f x y) v) :
  ∃ k a b,xv= .int k a/\yv= .int k b/\v= .c (.i k (f a b)):=by
 revert h; simp only [V7]; split
 ·rename_i k a k' b
  split
  ·rename_i hk
   have hk:=qN hk; subst hk
   exact fun h=>⟨k,a,b,hx,hy,(dI h).symm⟩
  ·exact fun h=>(kF h).elim
 ·exact fun h=>(kF h).elim
theorem Uu (hm:Le m M) (hR:Rel X M γ w) {t ty:TypeId} {x:AV} {xv:Value} {v:AV} (hx:bk M γ x xv) (h:Good (X.Iw m t x) v) :
  ∃ u,(Builtin.len_ #[t] ty #[xv]).run X.P w= .ok u w/\bk M γ v u:=by
 have gen:∀ a,bq M γ a xv->Good (Oy (Hb X.P t) (m.vw a).len) v->∃ u,(Builtin.len_ #[t] ty #[xv]).run X.P w= .ok u w/\bk M γ v u:=by
  intro a hr h
  cases hl:(m.vw a).len with
  | none=>simp [hl,Oy,Good] at h
  | some n =>
   rw [hl] at h
   cases hs:Hb X.P t with
   | false=>rw [hs] at h; exact (kF h).elim
   | true =>
    rw [hs] at h
    have:=dI h; subst this
    obtain ⟨b,cap,rfl⟩:=(tU hm hR hr hl).slice
    exact ⟨_,Q7 hs,rfl⟩
 cases x with
 | c a =>
  cases a with
  | s a =>
   have hx:xv= .string a:=hx
   subst hx
   cases hs:isStr X.P t with
   | false=>simp [Ctx.Iw,hs,Good] at h
   | true =>
    simp only [Ctx.Iw,hs] at h
    have:=dI h; subst this
    exact ⟨_,RW hs,rfl⟩
  | un=>simp [Ctx.Iw,Lk.vw,Vw.len,Oy,Good] at h
  | _=>exact gen _ hx h
 | _=>simp [Ctx.Iw,Good] at h
theorem Sb (hX:iy X) (hm:Le m M) (hR:Rel X M γ w) {evp:List (Nat×Bool)->TypeId->Operand->AV} (rA:∀ ty x,bk M γ (evp [] ty x) (ρ x))
  (Vf:∀ ty t x a b,evp [] ty (.tmp t)= .c (.b x)->(x=true->bk M γ (evp [(t,true)] ty a) (ρ a))/\(x=false->bk M γ (evp [(t,false)] ty b) (ρ b)))
  {d:Nat} {o:Oper} {v:AV} (h:Good (bZ X evp m d o.type o.op) v):Pure X M γ w ρ o v:=by
 obtain ⟨dst,op,type,pos,aft,guard⟩:=o
 simp only at h
 cases op with
 | move x =>
  simp only [bZ] at h; have:=dI h; subst this
  exact ⟨_,rfl,rA _ _⟩
 | assign x =>
  simp only [bZ] at h; have:=dI h; subst this
  exact ⟨_,rfl,rA _ _⟩
 | pick c a b =>
  cases c with
  | tmp t =>
   simp only [bZ] at h
   cases hc:evp [] type (.tmp t) with
   | c y =>
    cases y with
    | b x =>
     simp only [hc] at h
     have:=dI h; subst this
     have hb:=rA type (.tmp t); rw [hc] at hb
     have hb:ρ (.tmp t)= .bool x:=hb
     obtain ⟨h1,h2⟩:=Vf type t x a b hc
     refine ⟨bif x then ρ a else ρ b,by simp only [Go.execOp,Sem.run_bind,hb,asBool,Sem.run_pure,Result.andThen_ok]; cases x<;>rfl,?_⟩
     cases hu:evp [(t,true)] type a with
     | c u =>
      cases u with
      | b p =>
       cases hv:evp [(t,false)] type b with
       | c v =>
        cases v with
        | b q =>
         rw [hu] at h1; rw [hv] at h2
         cases x with
         | true=>exact h1 rfl
         | false=>exact h2 rfl
        | _=>exact trivial
       | _=>exact trivial
      | _=>exact trivial
     | _=>exact trivial
    | _=>simp [hc,Good] at h
   | _=>simp [hc,Good] at h
  | _=>simp [bZ,Good] at h
 | build t parts =>
  simp only [bZ] at h
  cases hz:X.zero t with
  | none=>simp [hz,Good] at h
  | some zs =>
   cases hp:RM X.P t with
   | false=>simp [hz,hp,Good] at h
   | true =>
    cases hf:AH X t (evp [] type) parts.toList zs with
    | none=>simp [hz,hp,hf,Good] at h
    | some cs =>
     simp only [hz,hp,hf] at h
     have:=dI h; subst this
     exact Pure.of rfl (Oe hR (rA type) hz hp hf)
 | load t x =>
  simp only [bZ] at h
  cases hx:evp [] type x with
  | c a =>
   simp only [hx] at h
   cases DZ:m.from a with
   | none=>simp [DZ,Good] at h
   | some cs =>
    simp only [DZ] at h
    cases hz:Nat.ble (fS X.P t) cs.length&&CH X.P t with
    | false=>simp [hz,Good] at h
    | true =>
     simp only [hz] at h
     have:=dI h; subst this
     simp only [zB] at hz
     have hr:=rA type x; rw [hx] at hr
     exact Pure.of rfl (Km hm hR (bk.to hr (by rintro rfl; simp [Lk.from] at DZ)) DZ hz.1 hz.2)
  | _=>simp [hx,Good] at h
 | nilCheck x =>
  simp only [bZ] at h
  have hr:=rA type x
  cases hx:evp [] type x with
  | c a =>
   rw [hx] at hr
   simp only [hx] at h
   cases a with
   | pv k c =>
    have:=dI h; subst this
    obtain ⟨h1,h2⟩:=hr
    exact ⟨ρ x,by simp only [Go.execOp,h2]; rfl,h1,h2⟩
   | pe r e c =>
    have:=dI h; subst this
    have cz:=hr
    obtain ⟨row,h1,h2,g,oo,n,cap,h3,h4⟩:=hr
    exact ⟨ρ x,by simp only [Go.execOp,h4]; rfl,cz⟩
   | pn r e c k d =>
    have:=dI h; subst this
    have cz:=hr
    obtain ⟨row,τ,ys,u,h1,h2,h3,h4,h5,g,oo,n,cap,h6,h7⟩:=hr
    exact ⟨ρ x,by simp only [Go.execOp,h7]; rfl,cz⟩
   | _=>simp [Good] at h
  | _=>simp [hx,Good] at h
 | binOp op t x y c =>
  simp only [bZ] at h
  exact Pure.of rfl (Ns hX (rA t x) (rA t y) h)
 | unOp op t x =>
  simp only [bZ] at h
  exact Pure.of rfl (Rg (rA t x) h)
 | convert t u x =>
  simp only [bZ] at h
  exact Pure.of rfl (Rf hm hR (rA t x) h)
 | makeFunc fn first caps =>
  cases fn with
  | func f =>
   simp only [bZ] at h
   cases hs:first.size with
   | succ n=>simp [hs,Good] at h
   | zero =>
    cases hc:yk (evp [] type) caps.toList with
    | none=>simp [hs,hc,Good] at h
    | some vs =>
     simp only [hs,hc] at h
     have:=dI h; subst this
     obtain ⟨h1,h2⟩:=J5 (rA type) _ _ hc
     have h0:first= #[]:=Array.eq_empty_of_size_eq_zero hs
     subst h0
     refine Pure.of rfl ⟨_,rfl,h2,?_⟩
     have e:caps.map ρ=(vs.map fun k=>Value.pointer (some ⟨γ.vb k,0,none⟩)).toArray:=by
      rw [← h1]
      apply Array.toList_inj.1
      rw [Array.toList_map]
     rw [e]; first | rfl | simp | (congr 1)
  | _=>simp [bZ,Good] at h
 | slice t x lo hi mx =>
  simp only [bZ] at h
  cases mx with
  | some _=>simp [Good] at h
  | none =>
   cases hl:Io (evp [] type) lo with
   | none=>simp [hl,Good] at h
   | some l =>
    cases hh:Io (evp [] type) hi with
    | none=>simp [hl,hh,Good] at h
    | some hb =>
     simp only [hl,hh] at h
     cases hc:m.j7 X.P t (evp [] t x) with
     | false=>simp [hc,Good] at h
     | true =>
      simp only [hc] at h
      obtain ⟨k1,e1⟩:=J7 (rA type) hl
      obtain ⟨k2,e2⟩:=J7 (rA type) hh
      obtain ⟨u,hu,hr⟩:=NA hm hR (rA t x) (kl:=k1) (kh:=k2) hc h
      exact Pure.of rfl ⟨u,by rw [e1,e2]; exact hu,hr⟩
 | fieldAddr t x f =>
  simp only [bZ] at h
  cases hx:evp [] type x with
  | c a =>
   cases hf:xS X.P t f with
   | none=>simp [hx,hf,Good] at h
   | some n =>
    cases hz:Nat.beq (fS X.P (Cf X.P t f)) 0 with
    | true=>simp only [hx,hf,hz] at h; exact (kF h).elim
    | false =>
     simp only [hx,hf,hz] at h
     have hr:=rA type x; rw [hx] at hr
     have FF:H5 a n≠ .un:=by intro e; rw [e] at h; exact (kF h).elim
     have hv:v= .c (H5 a n):=by
      revert h; split
      ·exact fun h=>(kF h).elim
      ·exact fun h=>(dI h).symm
     subst hv
     obtain ⟨u,hu,cz⟩:=Pf (bk.to hr (by rintro rfl; simp [H5] at FF)) hf hz FF
     exact Pure.of rfl ⟨u,hu,bk.of cz⟩
  | _=>simp [hx,Good] at h
 | field t x f =>
  simp only [bZ] at h
  cases hx:evp [] t x with
  | a l =>
   cases hf:xS X.P t f with
   | none=>simp [hx,hf,Good] at h
   | some n =>
    simp only [hx,hf] at h
    cases hz:Nat.ble (n+fS X.P (Cf X.P t f)) l.length&&CH X.P (Cf X.P t f) with
    | false=>simp [hz,Good] at h
    | true =>
     simp only [hz] at h
     have:=dI h; subst this
     simp only [zB] at hz
     have hr:=rA t x; rw [hx] at hr
     exact Pure.of rfl (Ms hr hf hz.1 hz.2)
  | _=>simp [hx,Good] at h
 | indexAddr t x i =>
  simp only [bZ] at h
  cases hx:evp [] t x with
  | c a =>
   cases hi:(evp [] type i).int with
   | none=>simp [hx,hi,Good] at h
   | some n =>
    simp only [hx,hi] at h
    obtain ⟨k,hk⟩:=vX (rA type i) hi
    have hr:=rA t x; rw [hx] at hr
    obtain ⟨u,hu,cz⟩:=Pn hm hR (k:=k) (bk.to hr (by rintro rfl; simp [Lk.q8,Good] at h)) h
    exact Pure.of rfl ⟨u,by rw [hk]; exact hu,cz⟩
  | _=>simp [hx,Good] at h
 | index t x i =>
  simp only [bZ] at h
  cases hx:evp [] t x with
  | c a =>
   cases a with
   | s a =>
    cases hi:(evp [] type i).int with
    | none=>simp [hx,hi,Good] at h
    | some n =>
     simp only [hx,hi] at h
     cases hs:isStr X.P t with
     | false=>simp [hs,Good] at h
     | true =>
      simp only [hs] at h
      obtain ⟨h1,rfl⟩:=Oi h
      obtain ⟨k,hk⟩:=vX (rA type i) hi
      have hr:=rA t x; rw [hx] at hr
      have hr:ρ x= .string a:=hr
      exact Pure.of rfl ⟨_,by rw [hk,hr]; exact Lr hs h1,rfl⟩
   | _=>simp [hx,Good] at h
  | _=>simp [hx,Good] at h
 | extract x i =>
  simp only [bZ] at h
  cases hx:evp [] type x with
  | t l =>
   simp only [hx] at h
   cases hn:nth l i with
   | none=>simp [hn,Good] at h
   | some p =>
    obtain ⟨b,cs⟩:=p
    simp only [hn] at h
    have:=dI h; subst this
    have hr:=rA type x; rw [hx] at hr
    exact Pure.of rfl (Is hr hn)
  | _=>simp [hx,Good] at h
 | call c =>
  obtain ⟨callee,args,argTypes⟩:=c
  cases callee with
  | builtin b =>
   simp only [bZ] at h
   revert h; split
   ·rename_i x t ha ht
    intro h
    have Fw:args= #[x]:=Array.toList_inj.1 ha
    have Jq:argTypes= #[t]:=Array.toList_inj.1 ht
    subst Fw; subst Jq
    obtain ⟨u,hu,hr⟩:=Uu (ty:=type) hm hR (rA t x) h
    refine ⟨u,?_,hr⟩
    simp only [Go.execOp,resolve,invoke,Sem.run_bind,Sem.run_pure,Result.andThen_ok,builtin,List.map_toArray,List.map,hu]
   ·intro h
    exfalso
    revert h; simp only [Ctx.U7]; split
    ·exact R8
    ·exact kF
   ·intro h
    exfalso
    revert h; simp only [Ctx.sN]; split
    ·split
     ·split
      ·simp [Good]
      ·exact kF
     ·exact kF
    ·exact kF
   ·intro h
    exfalso
    revert h; simp only [Ctx.uR]; repeat' split
    all_goals simp [Good]
   ·rename_i tys x y ha
    intro h
    have Fw:args= #[x,y]:=Array.toList_inj.1 ha
    subst Fw
    obtain ⟨k,a,b,e1,e2,rfl⟩:=Ot (rA type x) (rA type y) h
    refine ⟨_,?_,rfl⟩
    simp only [Go.execOp,resolve,invoke,Sem.run_bind,Sem.run_pure,Result.andThen_ok,builtin,List.map_toArray,List.map,e1,e2,Builtin.max_]
    show (Result.andThen (Sem.run X.P (List.foldlM Builtin.max2 (.int k a) [.int k b]) w) _)=_
    simp only [List.foldlM,Sem.run_bind,OI,Result.andThen_ok,Sem.run_pure]
   ·rename_i tys x y ha
    intro h
    have Fw:args= #[x,y]:=Array.toList_inj.1 ha
    subst Fw
    obtain ⟨k,a,b,e1,e2,rfl⟩:=Ot (rA type x) (rA type y) h
    refine ⟨_,?_,rfl⟩
    simp only [Go.execOp,resolve,invoke,Sem.run_bind,Sem.run_pure,Result.andThen_ok,builtin,List.map_toArray,List.map,e1,e2,Builtin.min_]
    show (Result.andThen (Sem.run X.P (List.foldlM Builtin.min2 (.int k a) [.int k b]) w) _)=_
    simp only [List.foldlM,Sem.run_bind,OV,Result.andThen_ok,Sem.run_pure]
   ·exact fun h=>(kF h).elim
  | value f=>simp [bZ,Good] at h
  | invoke r n=>simp [bZ,Good] at h
 | alloc t=>simp only [bZ] at h; revert h; split<;>simp [Good]
 | box t x=>simp only [bZ] at h; revert h; split<;>(try split)<;>simp [Good]
 | store t x y=>simp only [bZ] at h; revert h; split<;>(try split)<;>first | (exact fun h=>(Mr h).elim) | simp [Good]
 | buildSlice t n ps =>
  exfalso; simp only [bZ] at h
  repeat' (first | (split at h) | (exact kF h) | (simp [Good] at h; done))
 | makeSlice t n c =>
  exfalso; simp only [bZ] at h
  repeat' (first | (split at h) | (exact kF h) | (simp [Good] at h; done))
 | _=>simp [bZ,Good] at h
end Go.Soft
namespace Go.Soft
open Go
variable {X:Ctx} {m M:Lk} {γ γ':Gh} {w w':World} {ρ:Operand->Value} {S:St} {δ:Dl}
theorem N4 {α:Type} (l:List (Nat×α)) (n:Nat) (v:α) (k:Nat):lk (put l n v) k=if n=k then some v else lk l k:=by
 have abF:∀ l:List (Nat×α),lk (Mm n v l) k=if n=k then (lk l n).map (fun _=>v) else lk l k:=by
  intro l
  induction l with
  | nil=>simp [Mm,lk]
  | cons p l ih =>
   obtain ⟨j,u⟩:=p
   simp only [Mm]
   by_cases KU:j=n
   ·subst KU
    rw [show Nat.beq j j=true from Nat.beq_refl j]
    simp only [lk]
    by_cases Fq:j=k
    ·subst Fq; simp [Nat.beq_refl]
    ·rw [show Nat.beq j k=false by cases h:Nat.beq j k; rfl; exact absurd (aG h) Fq]
     simp only [ih,Fq,if_false]
   ·rw [show Nat.beq j n=false by cases h:Nat.beq j n; rfl; exact absurd (aG h) KU]
    simp only [lk]
    rw [show Nat.beq j n=false by cases h:Nat.beq j n; rfl; exact absurd (aG h) KU]
    by_cases Fq:j=k
    ·subst Fq
     simp [Nat.beq_refl,Ne.symm KU]
    ·rw [show Nat.beq j k=false by cases h:Nat.beq j k; rfl; exact absurd (aG h) Fq]
     simp only [ih]
 simp only [put]
 cases h:lk l n with
 | none =>
  simp only [lk]
  by_cases P7:n=k
  ·subst P7; simp [Nat.beq_refl]
  ·rw [show Nat.beq n k=false by cases h:Nat.beq n k; rfl; exact absurd (aG h) P7]; simp [P7]
 | some u=>rw [abF,h]; rfl
theorem Ub {α:Type} (n:Nat) (l:List (Nat×α)) (k:Nat):lk (Wd n l) k=if n=k then none else lk l k:=by
 induction l with
 | nil=>simp [Wd,lk]
 | cons p l ih =>
  obtain ⟨j,u⟩:=p
  simp only [Wd]
  by_cases KU:j=n
  ·subst KU
   rw [show Nat.beq j j=true from Nat.beq_refl j]
   simp only [ih,lk]
   by_cases Fq:j=k
   ·simp [Fq]
   ·rw [show Nat.beq j k=false by cases h:Nat.beq j k; rfl; exact absurd (aG h) Fq]
  ·rw [show Nat.beq j n=false by cases h:Nat.beq j n; rfl; exact absurd (aG h) KU]
   simp only [lk]
   by_cases Fq:j=k
   ·subst Fq; simp [Nat.beq_refl,Ne.symm KU]
   ·rw [show Nat.beq j k=false by cases h:Nat.beq j k; rfl; exact absurd (aG h) Fq]; exact ih
def fk {α:Type}:List (Nat×α)->Nat->Option α
 | [],_=>none
 | (k,v)::l,n=>match fk l n with
  | some u=>some u
  | none=>if k=n then some v else none
theorem JR (m:List (Nat×List Cv)):∀ (l:List (Nat×List Cv)) (k:Nat),lk (NO l m) k=match fk m k with | some cs=>some cs | none=>lk l k:=by
 induction m with
 | nil=>intro l k; rfl
 | cons p m ih =>
  obtain ⟨j,cs⟩:=p
  intro l k
  simp only [NO,ih,fk,N4]
  cases fk m k with
  | some u=>rfl
  | none=>by_cases h:j=k<;>simp [h]
theorem RF (m:List (Nat×Option Row)):∀ (l:List (Nat×Row)) (k:Nat),lk (IS l m) k=match fk m k with | some r=>r | none=>lk l k:=by
 induction m with
 | nil=>intro l k; rfl
 | cons p m ih =>
  obtain ⟨j,r⟩:=p
  intro l k
  cases r with
  | none =>
   simp only [IS,ih,fk,Ub]
   cases fk m k with
   | some u=>rfl
   | none=>by_cases h:j=k<;>simp [h]
  | some r =>
   simp only [IS,ih,fk,N4]
   cases fk m k with
   | some u=>rfl
   | none=>by_cases h:j=k<;>simp [h]
theorem tM (h:δ.quiet=true) (x:Cv):δ.map x=x:=by
 obtain ⟨mv,kr,ke,kn,kv,rs,vs⟩:=δ
 have:mv=[]/\kr=[]/\ke=[]/\kn=[]/\kv=[]:=by
  revert h; simp only [Dl.quiet]; split<;>simp_all
 obtain ⟨rfl,rfl,rfl,rfl,rfl⟩:=this
 have any:∀ l:List Nat,rU l []=false:=by intro l; induction l with | nil=>rfl | cons a l ih=>simp [rU,cg,ih]
 cases x<;>simp [Dl.map,cg,lk,any]
theorem zw {f:Cv->Cv} (h:∀ x,f x=x) (v:AV):ky f v=v:=by
 have hl:∀ l:List Cv,l.map f=l:=fun l=>by rw [show f=id from funext h]; simp
 induction v with
 | c x=>simp [ky,h]
 | a l=>simp [ky,hl]
 | t l=>simp [ky,hl]
 | g p q v ih=>simp [ky,ih]
theorem kZ (S:St) (δ:Dl) (k:Nat):(S.app δ).lk.r k=match fk δ.rs k with | some r=>r | none=>S.lk.r k:=by
 simp only [St.app,St.lk]
 cases δ.quiet<;>simp only [RF]
theorem oy (S:St) (δ:Dl) (k:Nat):(S.app δ).lk.v k=match fk δ.vs k with | some cs=>some cs | none=>(S.lk.v k).map (List.map δ.map):=by
 simp only [St.app,St.lk]
 cases h:δ.quiet with
 | true =>
  simp only [JR]
  cases fk δ.vs k with
  | some cs=>rfl
  | none =>
   have:(List.map δ.map)=(id:List Cv->List Cv):=by
    rw [show δ.map=id from funext (tM h)]; exact funext fun l=>by simp
   simp [this]
 | false =>
  simp only [JR,NU]
theorem N3 (S:St) (δ:Dl) (t:Nat):lk (S.app δ).tm t=(lk S.tm t).map (ky δ.map):=by
 simp only [St.app]
 cases h:δ.quiet with
 | true =>
  have:ky δ.map=id:=funext fun v=>zw (tM h) v
  simp [this]
 | false=>simp only [NU]
structure Step (X:Ctx) (S:St) (γ:Gh) (w:World) (δ:Dl) (γ':Gh) (w':World):Prop where
 rel:Rel X (S.app δ).lk γ' w'
 qg:∀ x v,bq S.lk γ x v->bq (S.app δ).lk γ' (δ.map x) v
 fr:Fr γ.O w γ'.O w'
 kp:∀ k row,fk δ.rs k=none->S.lk.r k=some row->γ'.rv k=γ.rv k/\γ'.cv k=γ.cv k
 k1:∀ k row,fk δ.rs k=some (some row)->row.ow=1->k<100000
 io:∀ k,200000<=k->k<300000->γ'.rv k=γ.rv k
 vb:∀ k,k<1000->γ'.vb k=γ.vb k
 vk:∀ k cs,S.lk.v k=some cs->fk δ.vs k=none->γ'.vb k=γ.vb k/\γ'.O (γ.vb k)=some (.v k)/\w'.heap[γ.vb k]? =w.heap[γ.vb k]?
theorem Fr.trans {O0:OM} {w0:World} {O O':OM} {w w':World} (h:Fr O0 w0 O w) (h':Fr O w O' w'):Fr O0 w0 O' w' :=
 ⟨h'.os.trans h.os,h'.tape.trans h.tape,h'.output.trans h.output,Nat.le_trans h.size h'.size,
  fun g hg ho=>by
   obtain ⟨h1,h2⟩:=h.oR g hg ho
   obtain ⟨h3,h4⟩:=h'.oR g (Nat.lt_of_lt_of_le hg h.size) (by rw [h1]; exact ho)
   exact ⟨h3.trans h1,h4.trans h2⟩,h'.top⟩
theorem ca.map {m':Lk} {f:Cv->Cv} (hk:∀ x v,bq M γ x v->bq m' γ' (f x) v) {l:List Cv} {u:List Value} (h:ca M γ l u):ca m' γ' (l.map f) u:=by
 induction h with
 | nil=>exact .nil
 | cons hx hl ih=>exact .cons (hk _ _ hx) ih
theorem O2.map {m':Lk} {f:Cv->Cv} (hk:∀ x v,bq M γ x v->bq m' γ' (f x) v) {p:Bool×List Cv} {u:Value} (h:O2 M γ p u):O2 m' γ' (p.1,p.2.map f) u:=by
 obtain ⟨us,h1,h2,h3⟩:=h
 exact ⟨us,h1.map hk,h2,h3⟩
theorem sb.map {m':Lk} {f:Cv->Cv} (hk:∀ x v,bq M γ x v->bq m' γ' (f x) v) {l:List (Bool×List Cv)} {u:List Value} (h:sb M γ l u):sb m' γ' (l.map fun p=>(p.1,p.2.map f)) u:=by
 induction h with
 | nil=>exact .nil
 | cons hx hl ih=>exact .cons (hx.map hk) ih
theorem bk.map {m':Lk} {f:Cv->Cv} (hk:∀ x v,bq M γ x v->bq m' γ' (f x) v) (hu:f .un= .un):∀ {av:AV} {v:Value},bk M γ av v->bk m' γ' (ky f av) v
 | .c x,v,h=>by
  by_cases hx:x= .un
  ·subst hx; simp only [ky,hu]; exact trivial
  ·exact bk.of (hk _ _ (bk.to h hx))
 | .a l,v,⟨us,h1,h2⟩=>⟨us,h1,h2.map hk⟩
 | .t l,v,⟨us,h1,h2⟩=>⟨us,h1,h2.map hk⟩
 | .g p q a,v,⟨h1,h2⟩=>⟨fun hq=>bk.map hk hu (h1 hq),h2⟩
theorem Db (δ:Dl) (x:Cv):δ.map x= .un \/
  (δ.map x=x/\(∀ r,x.row=some r->lk δ.mv r=none/\cg r δ.kr=false/\((∀ s,x≠ .sw s)->cg r δ.ke=false)/\(x.inner=true->cg r δ.kn=false))/\∀ k∈x.vk,cg k δ.kv=false) \/
  (∃ r d e c,lk δ.mv r=some (d,e,c)/\((x= .sw r/\δ.map x= .nw d e c)\/(∃ o n,x= .sl r o n/\δ.map x= .ns d e c o n)\/∃ k a,x= .pe r k a/\δ.map x= .pn d e c k a)):=by
 have anyF:∀ (l m:List Nat),rU l m=false->∀ k∈l,cg k m=false:=by
  intro l m
  induction l with
  | nil=>simp
  | cons a l ih =>
   simp only [rU]
   cases h:cg a m with
   | true=>simp
   | false=>intro h' k hk; rcases zI.1 hk with rfl | hk; exact h; exact ih h' k hk
 cases x with
 | pv v c=>simp only [Dl.map]; cases h:cg v δ.kv<;>simp [Cv.row,Cv.vk,h]
 | fn f caps =>
  simp only [Dl.map]; cases h:rU caps δ.kv with
  | true=>simp
  | false=>right; left; exact ⟨rfl,by simp [Cv.row],fun k hk=>anyF _ _ h k hk⟩
 | sw r =>
  simp only [Dl.map]; cases h:lk δ.mv r with
  | some p=>obtain ⟨d,e,c⟩:=p; right; right; exact ⟨r,d,e,c,h,.inl ⟨rfl,by simp [h]⟩⟩
  | none=>cases h2:cg r δ.kr<;>simp [Cv.row,Cv.vk,Cv.inner,h,h2]
 | sl r o n =>
  simp only [Dl.map]; cases h:lk δ.mv r with
  | some p=>obtain ⟨d,e,c⟩:=p; right; right; exact ⟨r,d,e,c,h,.inr (.inl ⟨o,n,rfl,by simp [h]⟩)⟩
  | none=>cases h2:cg r δ.kr<;>cases h3:cg r δ.ke<;>simp [Cv.row,Cv.vk,Cv.inner,h,h2,h3]
 | pe r k a =>
  simp only [Dl.map]; cases h:lk δ.mv r with
  | some p=>obtain ⟨d,e,c⟩:=p; right; right; exact ⟨r,d,e,c,h,.inr (.inr ⟨k,a,rfl,by simp [h]⟩)⟩
  | none=>cases h2:cg r δ.kr<;>cases h3:cg r δ.ke<;>simp [Cv.row,Cv.vk,Cv.inner,h,h2,h3]
 | nw r e c =>
  simp only [Dl.map]; cases h:lk δ.mv r with
  | some p=>simp
  | none=>cases h2:cg r δ.kr<;>cases h3:cg r δ.ke<;>cases h4:cg r δ.kn<;>simp [Cv.row,Cv.vk,Cv.inner,h,h2,h3,h4]
 | ns r e c o n =>
  simp only [Dl.map]; cases h:lk δ.mv r with
  | some p=>simp
  | none=>cases h2:cg r δ.kr<;>cases h3:cg r δ.ke<;>cases h4:cg r δ.kn<;>simp [Cv.row,Cv.vk,Cv.inner,h,h2,h3,h4]
 | pn r e c k d =>
  simp only [Dl.map]; cases h:lk δ.mv r with
  | some p=>simp
  | none=>cases h2:cg r δ.kr<;>cases h3:cg r δ.ke<;>cases h4:cg r δ.kn<;>simp [Cv.row,Cv.vk,Cv.inner,h,h2,h3,h4]
 | _=>simp [Dl.map,Cv.row,Cv.vk]
theorem mq (hR:Rel X S.lk γ w) (D0:δ.mv=[])
  (hw:∀ r row,S.lk.r r=some row->cg r δ.kr=false->(∃ row',(S.app δ).lk.r r=some row')/\γ'.rv r=γ.rv r)
  (hr:∀ r row row',S.lk.r r=some row->cg r δ.kr=false->cg r δ.ke=false->(S.app δ).lk.r r=some row'->row'.τ=row.τ/\row.xs.length<=row'.xs.length)
  (hn:∀ r,cg r δ.kr=false->cg r δ.ke=false->cg r δ.kn=false->NK S.lk γ (S.app δ).lk γ' r)
  (hv:∀ k cs,S.lk.v k=some cs->cg k δ.kv=false->(∃ cs',(S.app δ).lk.v k=some cs')/\γ'.vb k=γ.vb k) :
  ∀ x v,bq S.lk γ x v->bq (S.app δ).lk γ' (δ.map x) v:=by
 intro x v hx
 rcases Db δ x with h | ⟨h,h1,h2⟩ | ⟨r,d,e,c,h,_⟩
 ·rw [h]; exact hx.one hR
 ·rw [h]
  have Zc:∀ r,x= .sw r->bq (S.app δ).lk γ' x v:=by
   rintro r rfl
   obtain ⟨⟨row,bo⟩,rfl⟩:=hx
   obtain ⟨_,h3,_⟩:=h1 r rfl
   obtain ⟨h4,h5⟩:=hw r row bo h3
   exact ⟨h4,h5.symm⟩
  by_cases hs:∃ r,x= .sw r
  ·obtain ⟨r,rfl⟩:=hs; exact Zc r rfl
  ·have Cl:∀ s,x≠ .sw s:=fun s e=>hs ⟨s,e⟩
   have bo:∀ r,x.row=some r->∃ row,S.lk.r r=some row:=by
    intro r Nj
    cases x<;>simp [Cv.row] at Nj<;>subst Nj
    case sw r=>exact absurd rfl (Cl r)
    case sl=>obtain ⟨row,h,_⟩:=hx; exact ⟨row,h⟩
    case nw=>obtain ⟨row,_,_,h,_⟩:=hx; exact ⟨row,h⟩
    case ns=>obtain ⟨row,_,_,_,h,_⟩:=hx; exact ⟨row,h⟩
    case pe=>obtain ⟨row,h,_⟩:=hx; exact ⟨row,h⟩
    case pn=>obtain ⟨row,_,_,_,h,_⟩:=hx; exact ⟨row,h⟩
   have CO:∀ k∈x.vk,∃ cs,S.lk.v k=some cs:=by
    intro k hk
    cases x<;>simp [Cv.vk] at hk
    case pv=>subst hk; exact hx.1
    case fn=>exact hx.1 k hk
   refine hx.re (fun r cz=> ?_) (fun r cz hi=> ?_) (fun k hk=> ?_)
   ·obtain ⟨_,h3,h4,_⟩:=h1 r cz
    obtain ⟨row,KQ⟩:=bo r cz
    obtain ⟨⟨row',h5⟩,h6⟩:=hw r row KQ h3
    refine ⟨fun row2 h7=> ?_,h6⟩
    rw [KQ] at h7; cases h7
    obtain ⟨h8,h9⟩:=hr r row row' KQ h3 (h4 Cl) h5
    exact ⟨row',h5,h8,h9⟩
   ·obtain ⟨_,h3,h4,h5⟩:=h1 r cz
    exact hn r h3 (h4 Cl) (h5 hi)
   ·obtain ⟨cs,iX⟩:=CO k hk
    obtain ⟨h3,h4⟩:=hv k cs iX (h2 k hk)
    exact ⟨fun _ _=>h3,h4⟩
 ·simp [D0,lk] at h
theorem x9 {k:Nat} {row:Row} {v:Value} {cs:List Value} {O O':OM} (h:cP X O w k row v cs)
  (hf:∀ g o,w.heap[g]? =some o->MA k (O g)->w'.heap[g]? =some o/\O' g=O g):cP X O' w' k row v cs:=by
 refine ⟨h.top.re (c':=dO k row.ow) (fun g o hg hi=> ?_) id,fun e c ct he hc=> ?_⟩
 ·obtain ⟨h1,h2⟩:=hf g o hg (ES hi); exact ⟨h1,h2▸hi⟩
 ·obtain ⟨u,hu,hr⟩:=h.rG e c ct he hc
  exact ⟨u,hu,hr.re (fun g o hg hi=>by obtain ⟨h1,h2⟩:=hf g o hg (J9 hi); exact ⟨h1,h2▸hi⟩) id⟩
theorem bW {g:Nat} {o:Obj} (h:w.heap[g]? =some o):g<w.heap.size:=(Array.getElem?_eq_some_iff.1 h).1
def dU {α:Type} (f:Nat->α) (k:Nat) (v:α):Nat->α:=fun n=>if n=k then v else f n
def OX (O:OM) (k:Nat):OM:=fun g=>if O g=some (.v k) then none else O g
theorem wj {α β:Type} (f:α->β) (l:List α):rW f l=l.map f:=by
 induction l with
 | nil=>rfl
 | cons x l ih=>simp [rW,ih]
section newvar
variable (S γ w) (key:Nat) (cs:List Cv)
def GO:Dl:={ Dl.z with kv:=[key],vs:=[(key,cs)] }
def Gy:Gh:={ γ with O:=dU (OX γ.O key) w.heap.size (some (.v key)),vb:=dU γ.vb key w.heap.size }
theorem So (k:Nat):(S.app (GO key cs)).lk.r k=S.lk.r k:=by rw [kZ]; rfl
theorem U3 (k:Nat):(S.app (GO key cs)).lk.v k=if key=k then some cs else (S.lk.v k).map (List.map (GO key cs).map):=by
 rw [oy]
 show (match (if key=k then some cs else none) with | some cs=>some cs | none=>_)=_
 by_cases h:key=k<;>simp [h]
variable {S γ w}
theorem E7 (hR:Rel X S.lk γ w):∀ x v,bq S.lk γ x v->bq (S.app (GO key cs)).lk (Gy γ w key) ((GO key cs).map x) v:=by
 refine mq hR rfl (fun r row h _=>⟨⟨row,by rw [So]; exact h⟩,rfl⟩) (fun r row row' h _ _ h'=> ?_) (fun r _ _ _=>⟨fun row row' h h'=> ?_⟩) (fun k c h hk=> ?_)
 ·rw [So,h] at h'; cases h'; exact ⟨rfl,Nat.le_refl _⟩
 ·rw [So,h] at h'; cases h'
  intro e c τ ys _ hc; exact ⟨⟨ys,hc,Nat.le_refl _⟩,rfl⟩
 ·have cR:¬ key=k:=by
   intro e; subst e; simp [GO,Dl.z,cg,Nat.beq_refl] at hk
  exact ⟨⟨c.map (GO key cs).map,by rw [U3,if_neg cR,h]; rfl⟩,by simp [Gy,dU,Ne.symm cR]⟩
theorem JU (uB:1000<=key) (hR:Rel X S.lk γ w) (cm:∀ g,w.heap.size<=g->γ.O g=none) (us:List Value) (e:TypeId) (hu:ca (S.app (GO key cs)).lk (Gy γ w key) cs us) :
  Step X S γ w (GO key cs) (Gy γ w key) (w.alloc (.cells us.toArray e))/\bq (S.app (GO key cs)).lk (Gy γ w key) (.pv key 0) (.pointer (some ⟨w.heap.size,0,none⟩)):=by
 have hO:∀ g,g<w.heap.size->γ.O g≠some (.v key)->(Gy γ w key).O g=γ.O g:=by
  intro g hg cR
  simp only [Gy,dU,OX,Nat.ne_of_lt hg,if_false,cR]
 have nq:∀ g o,w.heap[g]? =some o->(w.alloc (.cells us.toArray e)).heap[g]? =some o:=fun g o hg=>by
  rw [heap_alloc_old w _ g (bW hg)]; exact hg
 refine ⟨⟨⟨fun k c hk=> ?_,fun k row hk=> ?_⟩,E7 key cs hR,?_,fun _ _ _ _=>⟨rfl,rfl⟩,fun k row h=>(by cases h),fun _ _ _=>rfl,fun k hk=>(by simp [Gy,dU,show k≠key by omega]),fun k cs hk hz=> ?_⟩,?_⟩
 ·rw [U3] at hk
  by_cases h:key=k
  ·subst h
   rw [if_pos rfl] at hk; cases hk
   refine ⟨by simp [Gy,dU],us.toArray,e,by rw [show (Gy γ w key).vb key=w.heap.size by simp [Gy,dU]]; exact heap_alloc_new w _,by simpa using hu⟩
  ·rw [if_neg h] at hk
   cases hc:S.lk.v k with
   | none=>simp [hc] at hk
   | some c' =>
    rw [hc] at hk; simp only [Option.map_some,zA] at hk; subst hk
    obtain ⟨h1,cur,e',h2,h3⟩:=hR.vs k c' hc
    have FC:(Gy γ w key).vb k=γ.vb k:=by simp [Gy,dU,Ne.symm h]
    rw [FC]
    have fM:=bW h2
    refine ⟨by rw [hO _ fM (by rw [h1]; simp; exact fun e=>h e.symm),h1],cur,e',nq _ _ h2,h3.map (E7 key cs hR)⟩
 ·rw [So] at hk
  refine x9 (hR.rs k row hk) fun g o hg hf=>⟨nq g o hg,hO g (bW hg) ?_⟩
  rcases hf with h | h | h | ⟨_,_,h⟩<;>rw [h]<;>simp
 ·refine ⟨rfl,rfl,rfl,by simp,fun g hg ho=>⟨hO g hg ?_,heap_alloc_old w _ g hg⟩,fun g hg=> ?_⟩
  ·rcases ho with h | h | h<;>rw [h]<;>simp
  ·simp only [World.size_alloc] at hg
   have h1:g≠w.heap.size:=by omega
   simp only [Gy,dU,OX,h1,if_false,cm g (by omega)]
   simp
 ·have cR:¬ key=k:=by
   rintro rfl
   simp [GO,Dl.z,fk] at hz
  obtain ⟨h1,cur,e',h2,h3⟩:=hR.vs k cs hk
  have fM:=bW h2
  exact ⟨by simp [Gy,dU,Ne.symm cR],by rw [hO _ fM (by rw [h1]; simp; exact fun e=>cR e.symm),h1],heap_alloc_old w _ _ fM⟩
 ·exact ⟨⟨cs,by rw [U3,if_pos rfl]⟩,by simp [Gy,dU]⟩
end newvar
theorem l8 (w:World) (g:Nat) (cs:Array Value) (k:Nat) (h:k≠g):(w.setRow g cs).heap[k]? =w.heap[k]? :=by
 simp [World.setRow,Array.getElem?_modify,Ne.symm h]
theorem sY (w:World) (g:Nat) (cs cur:Array Value) (e:TypeId) (fz:Nat×Nat) (h:w.heap[g]? =some (.cells cur e fz)):(w.setRow g cs).heap[g]? =some (.cells cs e fz):=by
 simp [World.setRow,Array.getElem?_modify,h]
theorem yj {t:TypeId} {v:Value} {g o:Nat} {cur:Array Value} {e:TypeId} (hg:w.heap[g]? =some (.cells cur e (0,0))) (hs:v.cells.size=fS X.P t) (hp:0<v.cells.size)
  (hle:o+v.cells.size<=cur.size) (h1:∀ u∈v.cells.toList,u.oneCell'=true) :
  (Instr.storeAt t (.pointer (some ⟨g,o,none⟩)) v).run X.P w= .ok () (w.setRow g (Soft.cQ cur.toList o v.cells.toList).toArray):=by
 obtain ⟨i,hi,mi⟩:=GF hs.symm hp
 simp only [Instr.storeAt,Instr.sureAddr,storeVar,Sem.run_bind,Sem.run_pure,Result.andThen_ok,oq hi,mi,ne_eq,not_true_eq_false,if_false]
 rw [run_storeCells_at (P:=X.P) g o e v.cells.toList 0 cur w hg (by simpa using hle) h1]
 simp [Soft.cQ]
theorem cT {α:Type} (l m:List α) (c i:Nat) (h:i<c) (hc:c<=l.length):(Soft.cQ l c m)[i]? =l[i]? :=by
 simp only [Soft.cQ,List.append_assoc]
 rw [List.getElem?_append_left (by simp; omega),List.getElem?_take,if_pos h]
theorem cS {α:Type} (l m:List α) (c i:Nat) (h:c+m.length<=i) (hc:c+m.length<=l.length):(Soft.cQ l c m)[i]? =l[i]? :=by
 simp only [Soft.cQ]
 rw [List.getElem?_append_right (by simp; omega),List.getElem?_drop]
 congr 1; simp; omega
theorem dK {α:Type} (l m:List α) (c j:Nat) (h:j<m.length) (hc:c+m.length<=l.length):(Soft.cQ l c m)[c+j]? =m[j]? :=by
 simp only [Soft.cQ,List.append_assoc]
 rw [List.getElem?_append_right (by simp; omega),List.getElem?_append_left (by simp; omega)]
 congr 1; simp; omega
section varstore
variable (k c:Nat) (r8 vl:List Cv)
def Nb:Dl:={ Dl.z with vs:=[(k,Soft.cQ r8 c vl)] }
theorem Oh (x:Cv):(Nb k c r8 vl).map x=x:=tM rfl x
theorem Rm (j:Nat):(S.app (Nb k c r8 vl)).lk.r j=S.lk.r j:=by rw [kZ]; rfl
theorem WW (j:Nat):(S.app (Nb k c r8 vl)).lk.v j=if k=j then some (Soft.cQ r8 c vl) else S.lk.v j:=by
 rw [oy]
 show (match (if k=j then some (Soft.cQ r8 c vl) else none) with | some cs=>some cs | none=>_)=_
 have:List.map (Nb k c r8 vl).map=id:=by rw [show (Nb k c r8 vl).map=id from funext (Oh k c r8 vl)]; exact funext fun l=>by simp
 by_cases h:k=j<;>simp [h,this]
theorem R4 (hR:Rel X S.lk γ w) (cm:∀ g,w.heap.size<=g->γ.O g=none) {t:TypeId} {v:Value} {av:Value} (ha:bq S.lk γ (.pv k c) av) (ho:S.lk.v k=some r8)
  (hle:c+vl.length<=r8.length) (hv:ca S.lk γ vl v.cells.toList) (hs:vl.length=fS X.P t) (hp:0<vl.length) :
  ∃ w',(Instr.storeAt t av v).run X.P w= .ok () w'/\Step X S γ w (Nb k c r8 vl) γ w':=by
 obtain ⟨_,rfl⟩:=ha
 obtain ⟨hO,cur,e,hg,oT⟩:=hR.vs k r8 ho
 have hl1:=hv.length
 have MR:=oT.length
 simp only [Array.length_toList] at hl1 MR
 refine ⟨_,yj hg (by omega) (by omega) (by omega) (hv.one hR),?_⟩
 have qg:∀ x v,bq S.lk γ x v->bq (S.app (Nb k c r8 vl)).lk γ ((Nb k c r8 vl).map x) v:=by
  refine mq hR rfl (fun r row h _=>⟨⟨row,by rw [Rm]; exact h⟩,rfl⟩) (fun r row row' h _ _ h'=> ?_) (fun r _ _ _=>⟨fun row row' h h'=> ?_⟩) (fun j cs h _=>⟨?_,rfl⟩)
  ·rw [Rm,h] at h'; cases h'; exact ⟨rfl,Nat.le_refl _⟩
  ·rw [Rm,h] at h'; cases h'
   intro e c τ ys _ hc; exact ⟨⟨ys,hc,Nat.le_refl _⟩,rfl⟩
  ·rw [WW]; by_cases lz:k=j
   ·exact ⟨_,if_pos lz⟩
   ·exact ⟨cs,by rw [if_neg lz]; exact h⟩
 have keep':∀ {l u},ca S.lk γ l u->ca (S.app (Nb k c r8 vl)).lk γ l u:=by
  intro l u h
  have:=h.map qg
  rwa [show l.map (Nb k c r8 vl).map=l by rw [show (Nb k c r8 vl).map=id from funext (Oh k c r8 vl)]; simp] at this
 have nq:∀ g,g≠γ.vb k->(w.setRow (γ.vb k) (Soft.cQ cur.toList c v.cells.toList).toArray).heap[g]? =w.heap[g]? :=fun g h=>l8 w _ _ g h
 refine ⟨⟨fun j cs hj=> ?_,fun r row hr=> ?_⟩,qg,?_,fun _ _ _ _=>⟨rfl,rfl⟩,fun k row h=>(by cases h),fun _ _ _=>rfl,fun _ _=>rfl,fun j cs hj hz=>⟨rfl,(hR.vs j cs hj).1,nq _ fun h=> ?_⟩⟩
 ·rw [WW] at hj
  by_cases lz:k=j
  ·subst lz
   rw [if_pos rfl] at hj; cases hj
   exact ⟨hO,_,e,sY w _ _ _ _ _ hg,by simpa using keep' (oT.cQ hv c)⟩
  ·rw [if_neg lz] at hj
   obtain ⟨h1,cur',e',h2,h3⟩:=hR.vs j cs hj
   refine ⟨h1,cur',e',?_,keep' h3⟩
   rw [nq _ (fun h=>by rw [h,hO] at h1; simp at h1; exact lz h1)]; exact h2
 ·rw [Rm] at hr
  refine x9 (hR.rs r row hr) fun g o sa hf=>⟨?_,rfl⟩
  rw [nq g (fun h=>by rw [h,hO] at hf; rcases hf with h | h | h | ⟨_,_,h⟩<;>simp at h)]; exact sa
 ·refine ⟨rfl,rfl,rfl,by simp,fun g sa MO=>⟨rfl,nq g (fun h=>by rw [h,hO] at MO; simp at MO)⟩,fun g sa=>cm g (by simpa using sa)⟩
 ·have h1:=(hR.vs j cs hj).1
  rw [h,hO] at h1; simp at h1; subst h1
  simp [Nb,Dl.z,fk] at hz
end varstore
end Go.Soft
namespace Go.Soft
open Go
variable {X:Ctx} {m M:Lk} {γ γ':Gh} {w w':World} {ρ:Operand->Value} {S:St} {δ:Dl}
structure Ku (R:Nat->Prop) (γ:Gh) (w:World) (γ':Gh) (w':World):Prop where
 os:w'.os=w.os
 tape:w'.tape=w.tape
 output:w'.output=w.output
 size:w.heap.size<=w'.heap.size
 oR:∀ g,g<w.heap.size->(∀ r,R r->γ.O g≠some (.r r)/\∀ e c,γ.O g≠some (.n r e c))->w'.heap[g]? =w.heap[g]? /\γ'.O g=γ.O g
 top:∀ g,w'.heap.size<=g->γ'.O g=none
 vb:γ'.vb=γ.vb
 rv:∀ r,¬ R r->γ'.rv r=γ.rv r/\γ'.cv r=γ.cv r
theorem Ku.row {R:Nat->Prop} (h:Ku R γ w γ' w') {r:Nat} (hr:¬ R r) {row:Row} {v:Value} {cs:List Value} (bo:cP X γ.O w r row v cs):cP X γ'.O w' r row v cs :=
 x9 bo fun g o hg hf=>by
  obtain ⟨h1,h2⟩:=h.oR g (bW hg) (fun s hs=>by
   rcases hf with h | h | h | ⟨_,_,h⟩<;>rw [h]<;>refine ⟨?_,fun e c=> ?_⟩<;>simp
   ·rintro rfl; exact hr hs
   ·rintro rfl; exact absurd hs hr)
  exact ⟨h1.trans hg,h2⟩
theorem lX {R:Nat->Prop} (hR:Rel X S.lk γ w) (hvs:δ.vs=[]) (hc:Ku R γ w γ' w') (qg:∀ x v,bq S.lk γ x v->bq (S.app δ).lk γ' (δ.map x) v)
  (SM:∀ r row,fk δ.rs r=some (some row)->cP X γ'.O w' r row (γ'.rv r) (γ'.cv r)) (FF:∀ r row,fk δ.rs r=none->S.lk.r r=some row->¬ R r)
  (vQ:∀ k row,fk δ.rs k=some (some row)->row.ow=1->k<100000) (Cj:∀ k,200000<=k->k<300000->γ'.rv k=γ.rv k):Step X S γ w δ γ' w':=by
 refine ⟨⟨fun k cs hk=> ?_,fun r row hr=> ?_⟩,qg,?_,fun k row h1 h2=>hc.rv k (FF k row h1 h2),vQ,Cj,fun k _=>(by rw [hc.vb]),fun k cs hk _=> ?_⟩
 ·rw [oy,hvs] at hk
  simp only [fk] at hk
  cases iX:S.lk.v k with
  | none=>simp [iX] at hk
  | some cs' =>
   rw [iX] at hk; simp only [Option.map_some,zA] at hk; subst hk
   obtain ⟨h1,cur,e,h2,h3⟩:=hR.vs k cs' iX
   obtain ⟨h4,h5⟩:=hc.oR (γ.vb k) (bW h2) (fun s _=>by rw [h1]; simp)
   rw [hc.vb]
   exact ⟨h5.trans h1,cur,e,h4.trans h2,h3.map qg⟩
 ·rw [kZ] at hr
  cases hz:fk δ.rs r with
  | none =>
   rw [hz] at hr
   have hn:=FF r row hz hr
   obtain ⟨h1,h2⟩:=hc.rv r hn
   rw [h1,h2]
   exact hc.row hn (hR.rs r row hr)
  | some r' =>
   rw [hz] at hr
   subst hr
   exact SM r row hz
 ·refine ⟨hc.os,hc.tape,hc.output,hc.size,fun g hg ho=> ?_,hc.top⟩
  obtain ⟨h1,h2⟩:=hc.oR g hg (fun s _=>by rcases ho with h | h | h<;>rw [h]<;>simp)
  exact ⟨h2,h1⟩
 ·obtain ⟨h1,cur,e,h2,h3⟩:=hR.vs k cs hk
  obtain ⟨h4,h5⟩:=hc.oR (γ.vb k) (bW h2) (fun s _=>by rw [h1]; simp)
  exact ⟨by rw [hc.vb],h5.trans h1,h4⟩
def Lz (O:OM) (key:Nat) (n:Option Nat):OM:=fun g=>if some g=n then some (.r key) else match O g with
 | some (.r k)=>if k=key then none else some (.r k)
 | some (.n k e c)=>if k=key then none else some (.n k e c)
 | o=>o
def zf (γ:Gh) (key:Nat) (n:Option Nat) (v:Value) (cs:List Value):Gh:={ γ with O:=Lz γ.O key n,rv:=dU γ.rv key v,cv:=dU γ.cv key cs }
theorem QV (cm:∀ g,w.heap.size<=g->γ.O g=none) {key:Nat} {n:Option Nat} {v:Value} {cs:List Value} (Yt:w'.os=w.os) (Co:w'.tape=w.tape) (vK:w'.output=w.output)
  (mi:w.heap.size<=w'.heap.size) (hn:∀ g,some g=n->w.heap.size<=g/\g<w'.heap.size) (hb:∀ g,g<w.heap.size->w'.heap[g]? =w.heap[g]?) :
  Ku (·=key) γ w (zf γ key n v cs) w':=by
 refine ⟨Yt,Co,vK,mi,fun g hg hk=>⟨hb g hg,?_⟩,fun g hg=> ?_,rfl,fun r hr=>by simp [zf,dU,hr]⟩
 ·obtain ⟨h1,h2⟩:=hk key rfl
  have B8:¬ some g=n:=fun h=>by have:=hn g h; omega
  simp only [zf,Lz,if_neg B8]
  cases ho:γ.O g with
  | none=>rfl
  | some o =>
   rw [ho] at h1 h2
   cases o with
   | r k=>simp at h1; simp [h1]
   | n k e c=>have:=h2 e c; simp at this; simp [this]
   | _=>rfl
 ·have B8:¬ some g=n:=fun h=>by have:=hn g h; omega
  simp only [zf,Lz,if_neg B8,cm g (Nat.le_trans mi hg)]
def Pl (key:Nat) (row:Row):Dl:={ Dl.z with kr:=[key],rs:=[(key,some row)] }
theorem Sa (S:St) (key:Nat) (row:Row) (k:Nat):(S.app (Pl key row)).lk.r k=if key=k then some row else S.lk.r k:=by
 rw [kZ]
 show (match (if key=k then some (some row) else none) with | some r=>r | none=>_)=_
 by_cases h:key=k<;>simp [h]
theorem Z8 (S:St) (key:Nat) (row:Row) (k:Nat):(S.app (Pl key row)).lk.v k=(S.lk.v k).map (List.map (Pl key row).map):=by rw [oy]; rfl
theorem J0 {a b:Nat}:cg a [b]=false↔a≠b:=by
 simp only [cg]
 cases h:Nat.beq b a with
 | true=>have:=aG h; simp [this]
 | false=>simp; rintro rfl; rw [Nat.beq_refl] at h; cases h
theorem Sr (hR:Rel X S.lk γ w) (key:Nat) (row:Row) {γ':Gh} (FC:γ'.vb=γ.vb) (vP:∀ r,r≠key->γ'.rv r=γ.rv r/\γ'.cv r=γ.cv r) :
  ∀ x v,bq S.lk γ x v->bq (S.app (Pl key row)).lk γ' ((Pl key row).map x) v:=by
 have cR:∀ r,cg r (Pl key row).kr=false->key≠r:=fun r h=>Ne.symm (J0.1 h)
 refine mq hR rfl (fun r rw' h hk=>⟨⟨rw',by rw [Sa,if_neg (cR r hk)]; exact h⟩,(vP r (Ne.symm (cR r hk))).1⟩) (fun r row1 row2 h hk _ h'=> ?_) (fun r hk _ _=>⟨fun row1 row2 h h'=> ?_⟩) (fun k cs h _=>⟨?_,by rw [FC]⟩)
 ·rw [Sa,if_neg (cR r hk),h] at h'; cases h'; exact ⟨rfl,Nat.le_refl _⟩
 ·rw [Sa,if_neg (cR r hk),h] at h'; cases h'
  intro e c τ ys _ hc; exact ⟨⟨ys,hc,Nat.le_refl _⟩,by rw [(vP r (Ne.symm (cR r hk))).2]⟩
 ·exact ⟨cs.map (Pl key row).map,by rw [Z8,h]; rfl⟩
theorem QT (hR:Rel X S.lk γ w) {key:Nat} {row:Row} (uB:key<100000) {v:Value} {cs:List Value} {n:Option Nat} (hc:Ku (·=key) γ w (zf γ key n v cs) w') (bo:cP X (Lz γ.O key n) w' key row v cs) :
  Step X S γ w (Pl key row) (zf γ key n v cs) w'/\bq (S.app (Pl key row)).lk (zf γ key n v cs) (.sw key) v:=by
 refine ⟨lX hR rfl hc (Sr hR key row rfl fun r hr=>by simp [zf,dU,hr]) (fun r row' h=> ?_) (fun r row' h _=> ?_) (fun k row' h _=> ?_) (fun k h1 _=>by simp [zf,dU,show k≠key by omega]),⟨row,by rw [Sa,if_pos rfl]⟩,by simp [zf,dU]⟩
 ·have h:(if key=r then some (some row) else none)=some (some row'):=h
  by_cases hk:key=r
  ·subst hk; rw [if_pos rfl] at h; cases h
   simpa [zf,dU] using bo
  ·rw [if_neg hk] at h; cases h
 ·have h:(if key=r then some (some row) else none)=none:=h
  by_cases hk:key=r
  ·rw [if_pos hk] at h; cases h
  ·exact Ne.symm hk
 ·have h:(if key=k then some (some row) else none)=some (some row'):=h
  by_cases hk:key=k
  ·omega
  ·rw [if_neg hk] at h; cases h
theorem C3 (τ:Ty) {c:Nat} {ct:Ct} (h:(cells τ (ch τ))[c]? =some ct) (X:Ctx) (O:OM) (w:World) (cl:Ep):fU X O w cl ct (gu ct):=by
 have nil:∀ σ:Ty,σ.deep=false->fU X O w cl (.l σ []) (.slice none 0 0):=by
  intro σ hd
  refine ⟨hd,?_⟩
  cases cl with
  | own t=>exact ⟨World.ownsRow_nil w 0 _ _,by simp [Value.ownBlock]⟩
  | _=>exact ⟨by simp [fW],.inl ⟨rfl,rfl⟩⟩
 have hm:=List.mem_of_getElem? h
 have one:∀ ct':Ct,(ct'=ct)->(ct'= .l .int []\/ct'= .l .slot []\/fU X O w cl ct' (gu ct'))->fU X O w cl ct (gu ct):=by
  rintro _ rfl (rfl | rfl | h)
  ·exact nil _ rfl
  ·exact nil _ rfl
  ·exact h
 cases τ<;>simp only [cells,ch,zI,List.not_mem_nil,or_false] at hm
 all_goals (
  repeat (first
   | (refine one _ hm.symm ?_; first | exact .inr (.inr rfl) | exact .inl rfl | exact .inr (.inl rfl))
   | (refine hm.elim (fun hm=> ?_) (fun hm=> ?_))))
theorem nR {t:TypeId} {τ:Ty} (h:X.lI t=some τ):X.P.underlying t=some (.slice (X.id τ))/\lk X.ty (X.id τ)=some τ:=by
 simp only [Ctx.lI,NF,Ctx.Su] at h
 revert h; split
 ·rename_i e he
  split
  ·rename_i τ' hτ
   split
   ·rename_i hb
    intro h; cases h
    have:=aG hb
    subst this
    refine ⟨?_,hτ⟩
    revert he; split<;>intro he
    ·cases he; assumption
    ·cases he
   ·simp
  ·simp
 ·simp
theorem s8 (hX:iy X) {t:TypeId} {τ:Ty} (h:X.lI t=some τ):∃ i z,X.P.info? (X.id τ)=some i/\i.zero=some z/\i.size=sz τ/\i.bytes<=128/\z.cells.toList=(cells τ (ch τ)).map gu/\z.cells.size=sz τ:=by
 obtain ⟨_,h2⟩:=nR h
 obtain ⟨i,hi,hs⟩:=hX.ty _ _ h2
 obtain ⟨i',z,tw,hz,hc,hb⟩:=hX.id _ _ h2 rfl
 rw [hi] at tw; cases tw
 refine ⟨i,z,hi,hz,hs,hb,hc,?_⟩
 have:=congrArg List.length hc
 simpa [bd] using this
theorem Gk {z:Array Value} {n e c s:Nat} (hs:z.size=s) (hp:0<s) (he:e<n) (hc:c<s):(madeCells z (n*s)).toList[e*s+c]? =z.toList[c]? :=by
 have h1:(e+1)*s<=n*s:=zP _ he
 rw [Nat.add_mul] at h1
 have h2:e*s+c<n*s:=by omega
 have h3:(e*s+c) % s=c:=by rw [Nat.mul_comm,Nat.mul_add_mod,Nat.mod_eq_of_lt hc]
 subst hs
 simp [madeCells,h2,h3,hc]
theorem Mw (hX:iy X) (hR:Rel X S.lk γ w) (cm:∀ g,w.heap.size<=g->γ.O g=none) {t:TypeId} {τ:Ty} (ht:X.lI t=some τ) {k k':IntKind} {n:Nat} (hn:n<=M6) (key:Nat) (uB:key<100000) :
  ∃ v w' γ',(Instr.makeSlice t (.int k n) (.int k' n)).run X.P w= .ok v w'/\Step X S γ w (Pl key ⟨τ,List.replicate n (ch τ),5⟩) γ' w' /\
   bq (S.app (Pl key ⟨τ,List.replicate n (ch τ),5⟩)).lk γ' (.sw key) v:=by
 obtain ⟨hu,hτ⟩:=nR ht
 obtain ⟨i,z,hi,hz,hs,hb,hc,JB⟩:=s8 hX ht
 have Wy:i.bytes*n<=281474976710656:=by
  have:=Nat.mul_le_mul hb hn; simp only [M6] at this; omega
 obtain ⟨w',ng,gM,zl⟩:=run_make_full (P:=X.P) w 0 t (X.id τ) i z (sz τ) hu hi hz hs k k' n Wy (by simp only [M6] at hn; simp only [maxLen]; omega) (Nat.zero_le _)
 have jY:w.heap.size<w'.heap.size:=(gM.lt w.heap.size rfl).2
 have tz:Ku (·=key) γ w (zf γ key (some w.heap.size) (.slice (some ⟨w.heap.size,0,none⟩) n n) (madeCells z.cells (n*sz τ)).toList) w' :=
  QV cm zl.os zl.tape zl.output zl.size (fun g hg=>by cases hg; exact ⟨Nat.le_refl _,jY⟩) (fun g hg=>zl.block g hg (by simp))
 have bo:cP X (Lz γ.O key (some w.heap.size)) w' key ⟨τ,List.replicate n (ch τ),5⟩ (.slice (some ⟨w.heap.size,0,none⟩) n n) (madeCells z.cells (n*sz τ)).toList:=by
  refine ⟨⟨by simpa using gM,fun g hg=> ?_⟩,fun e c ct he de=> ?_⟩
  ·have:w.heap.size=g:=by simpa [Value.ownBlock] using hg
   simp [Lz,this]
  ·have he:e<n:=by simpa using he
   have iX:(cells τ (ch τ))[c]? =some ct:=by
    have:(List.replicate n (ch τ)).getD e (ch τ)=ch τ:=by simp [List.getD,List.getElem?_replicate,he]
    rw [vy,this] at de; exact de
   have fM:c<sz τ:=by have:=(zU.1 iX).1; rwa [bd] at this
   refine ⟨gu ct,?_,C3 τ iX _ _ _ _⟩
   rw [Gk JB (oz τ) he fM,hc,List.getElem?_map,iX]; rfl
 obtain ⟨h1,h2⟩:=QT hR uB tz bo
 exact ⟨_,w',_,ng,h1,h2⟩
def F2 (M:Lk) (γ:Gh) (x:Cv) (g:Nat):Prop:=match x with
 | .sw r=>∃ row,M.r r=some row/\In (dO r row.ow) (γ.O g)
 | .sl r _ _=>∃ row,M.r r=some row/\In (dO r row.ow) (γ.O g)
 | .nw r e c=>∃ row,M.r r=some row/\In (dR r e c row.ow) (γ.O g)
 | .ns r e c _ _=>∃ row,M.r r=some row/\In (dR r e c row.ow) (γ.O g)
 | _=>False
theorem Ou (hm:Le m M) (hR:Rel X M γ w) {x:Cv} {v:Value} (hx:bq M γ x v) {τ:Ty} {ys:List (El τ)} (hd:τ.deep=false) (h:(m.vw x).ct=some (.l τ ys)) :
  zz (F2 M γ x) w (sz τ) v ys.length (fW τ ys):=by
 obtain ⟨⟨cs,mh⟩,hlen⟩:=As hm hR hx h
 have zX:=mh.flat hd
 subst zX
 refine ⟨mh.top.1,?_⟩
 have top:∀ {A:Nat->Prop} {b:Value} {n':Nat} {cs':List Value} {off len z:Nat},zz A w z b n' cs'->AN z b off len v->∀ g o n cap,v= .slice (some ⟨g,o,none⟩) n cap->A g:=by
  intro A b n' cs' off len z hb hs g o n cap hv
  rcases hs with ⟨_,h2,_⟩ | ⟨g1,o1,n1,cap1,o2,cap2,h1,h2,_⟩
  ·rw [h2] at hv; cases hv
  ·rw [h2] at hv
   have hg:g1=g:=by injection hv with h1 _ _; injection h1 with h1; injection h1
   subst hg
   rcases hb.2 with ⟨h3,_⟩ | ⟨g3,o3,cap3,cur,e,fz,h3,_,ha,_⟩
   ·rw [h3] at h1; cases h1
   ·rw [h3] at h1
    have hg:g3=g1:=by injection h1 with h1 _ _; injection h1 with h1; injection h1
    exact hg▸ha
 have self:∀ {A:Nat->Prop} {n':Nat} {cs':List Value} {z:Nat},zz A w z v n' cs'->∀ g o n cap,v= .slice (some ⟨g,o,none⟩) n cap->A g:=by
  intro A n' cs' z hb g o n cap hv
  exact top hb hb.Ja.self g o n cap hv
 have key:∀ g o n cap,v= .slice (some ⟨g,o,none⟩) n cap->F2 M γ x g:=by
  cases x with
  | nl σ=>intro g o n cap hv; have hx:v= .slice none 0 0:=hx; rw [hx] at hv; cases hv
  | sw r =>
   obtain ⟨⟨row,hr⟩,rfl⟩:=hx
   exact fun g o n cap hv=>⟨row,hr,self (hR.rs r row hr).top.zb g o n cap hv⟩
  | sl r off len =>
   obtain ⟨row,hr,_,hs⟩:=hx
   exact fun g o n cap hv=>⟨row,hr,top (hR.rs r row hr).top.zb hs g o n cap hv⟩
  | nw r e c =>
   obtain ⟨row,τ',ys',hr,he,hc,hu⟩:=hx
   obtain ⟨u',oU,eG⟩:=(hR.rs r row hr).rG e c _ he hc
   rw [hu] at oU; cases oU
   exact fun g o n cap hv=>⟨row,hr,self eG.2.zb g o n cap hv⟩
  | ns r e c off len =>
   obtain ⟨row,τ',ys',u,hr,he,hc,hu,_,hs⟩:=hx
   obtain ⟨u',oU,eG⟩:=(hR.rs r row hr).rG e c _ he hc
   rw [hu] at oU; cases oU
   exact fun g o n cap hv=>⟨row,hr,top eG.2.zb hs g o n cap hv⟩
  | _=>simp [Lk.vw,Vw.ct] at h
 rcases mh.top.2 with hn | ⟨g,o,cap,cur,e,fz,h1,h2,h3,h4⟩
 ·exact .inl hn
 ·exact .inr ⟨g,o,cap,cur,e,fz,h1,h2,key _ _ _ _ h1,h4⟩
structure AbO (M:Lk) (γ:Gh) (w:World) (O':OM) (w':World) (x:Cv) (a:Ab) (key e c dM:Nat):Prop where
 heap:∀ g o,w.heap[g]? =some o->F2 M γ x g->w'.heap[g]? =some o
 WM:∀ g,g<w.heap.size->(γ.O g=none\/γ.O g=some .fz)->O' g=γ.O g
 mv:∀ r,a.mv=some r->∀ g,γ.O g=some (.r r)->In (dR key e c dM) (O' g)
 YY:∀ r,a.sh=some (r,3)->∀ g,γ.O g=some (.r r)->O' g=some .fz
 WV:∀ r,a.sh=some (r,4)->∀ g e c,γ.O g=some (.n r e c)->O' g=some .fz
theorem AS (r:Nat) {ow:Nat} (ho:ej ow=false):(dO r ow= .fz/\Rh ow=4)\/(dO r ow= .mT/\Rh ow=2):=by
 simp only [dO,ho,Rh]
 by_cases h3:ow=3
 ·subst h3; exact .inl ⟨rfl,rfl⟩
 ·refine .inr ⟨?_,?_⟩
  ·split
   ·exact absurd rfl h3
   ·rfl
  ·split
   ·exact absurd rfl h3
   ·rfl
theorem L1 (hm:Le m M) (hR:Rel X M γ w) {x:Cv} {v:Value} (hx:bq M γ x v) {a:Ab} (ha:m.eH x=some a) {key e c dM:Nat} (tx:dM=2\/dM=4\/dM=5) (hle:dM<=a.lv)
  {O':OM} {w':World} (h:AbO M γ w O' w' x a key e c dM):fU X O' w' (dR key e c dM) a.ct v:=by
 have nil:∀ σ:Ty,σ.deep=false->fU X O' w' (dR key e c dM) (.l σ []) (.slice none 0 0):=by
  intro σ hd
  refine ⟨hd,?_⟩
  cases dR key e c dM with
  | own t=>exact ⟨World.ownsRow_nil w' 0 _ _,by simp [Value.ownBlock]⟩
  | _=>exact ⟨by simp [fW],.inl ⟨rfl,rfl⟩⟩
 have shut:∀ (τ:Ty) (ys:List (El τ)),τ.deep=false->(m.vw x).ct=some (.l τ ys)->dM≠5->(∀ g,g<w.heap.size->F2 M γ x g->In (dR key e c dM) (O' g)) ->
   fU X O' w' (dR key e c dM) (.l τ ys) v:=by
  intro τ ys hd de h5 ht
  refine ⟨hd,?_⟩
  have hs:=Ou hm hR hx hd de
  have hb:∀ g o,w.heap[g]? =some o->F2 M γ x g->w'.heap[g]? =some o/\In (dR key e c dM) (O' g):=by
   intro g o hg hi
   exact ⟨h.heap g o hg hi,ht g (bW hg) hi⟩
  have Cl:=hs.mono hb
  have:dR key e c dM= .mT\/dR key e c dM= .fz:=by
   rcases tx with rfl | rfl | rfl
   ·exact .inl rfl
   ·exact .inr rfl
   ·exact absurd rfl h5
  rcases this with hc | hc<;>rw [hc] at Cl ⊢<;>exact Cl
 have toB:∀ g,g<w.heap.size->In .mT (γ.O g)->dM=2->In (dR key e c dM) (O' g):=by
  intro g hg hi h2; subst h2
  have:=h.WM g hg hi
  show In .mT (O' g); rw [this]; exact hi
 have toF:∀ g,(O' g=some .fz)->dM≠5->In (dR key e c dM) (O' g):=by
  intro g hi h5
  rcases tx with rfl | rfl | rfl
  ·exact .inr hi
  ·exact hi
  ·exact absurd rfl h5
 have fzF:∀ g,g<w.heap.size->γ.O g=some .fz->O' g=some .fz:=fun g hg hi=>by rw [h.WM g hg (.inr hi)]; exact hi
 cases x with
 | b y=>simp only [Lk.eH,zA] at ha; subst ha; exact hx
 | i k n=>simp only [Lk.eH,zA] at ha; subst ha; exact hx
 | s y=>simp only [Lk.eH,zA] at ha; subst ha; exact hx
 | nl τ =>
  simp only [Lk.eH] at ha
  cases hd:τ.deep with
  | true=>simp [hd] at ha
  | false=>simp only [hd,zA] at ha; subst ha; have hx:v= .slice none 0 0:=hx; subst hx; exact nil τ hd
 | sw r =>
  simp only [Lk.eH] at ha
  cases hr:m.r r with
  | none=>simp [hr] at ha
  | some row =>
   have fL:=hm.r r row hr
   cases hd:row.τ.deep with
   | true=>simp [hr,hd] at ha
   | false =>
    cases ho:ej row.ow with
    | true =>
     simp only [hr,hd,ho,zA] at ha; subst ha
     obtain ⟨⟨row',cz⟩,rfl⟩:=hx
     have bo:=hR.rs r row fL
     refine ⟨hd,?_⟩
     have zX:γ.cv r=fW row.τ row.xs:=(bo.Xx (A:=fun _=>True) (fun _ _=>trivial)).flat hd
     have cm:=bo.top
     rw [zX] at cm
     refine cm.re (fun g o hg hi=> ?_) (fun _=>by simp [dO,ho,Ep.pc])
     have hi:γ.O g=some (.r r):=by simpa [dO,ho,In] using hi
     exact ⟨h.heap g o hg ⟨row,fL,by simpa [dO,ho,In] using hi⟩,h.mv r rfl g hi⟩
    | false =>
     simp only [hr,hd,ho,zA] at ha; subst ha
     have de:(m.vw (.sw r)).ct=some (.l row.τ row.xs):=by simp [Lk.vw,hr,Vw.ct]
     simp only at hle ⊢
     rcases AS r ho with ⟨ht,hl⟩ | ⟨ht,hl⟩
     ·rw [hl] at hle
      refine shut _ _ hd de (by omega) (fun g hg hi=>toF g ?_ (by omega))
      obtain ⟨row',cz,hi⟩:=hi
      rw [fL] at cz; cases cz
      rw [ht] at hi; exact fzF g hg hi
     ·rw [hl] at hle
      refine shut _ _ hd de (by omega) (fun g hg hi=>toB g hg ?_ (by omega))
      obtain ⟨row',cz,hi⟩:=hi
      rw [fL] at cz; cases cz
      rw [ht] at hi; exact hi
 | sl r off len =>
  simp only [Lk.eH] at ha
  cases de:(m.vw (.sl r off len)).ct with
  | none=>simp [de] at ha
  | some ct =>
   cases ct with
   | l τ y =>
    cases hr:m.r r with
    | none=>simp [de,hr,Cv.row] at ha
    | some row =>
     have fL:=hm.r r row hr
     cases hd:τ.deep with
     | true=>simp [de,hr,hd,Cv.row] at ha
     | false =>
      cases ho:ej row.ow with
      | true =>
       simp only [de,hr,hd,ho,Cv.row,Cv.inner] at ha
       cases h4:nF 4 row.ow with
       | false=>simp [h4] at ha
       | true =>
       simp only [h4,zA] at ha; subst ha
       simp only at hle ⊢
       refine shut _ _ hd de (by omega) (fun g hg hi=>toF g ?_ (by omega))
       obtain ⟨row',cz,hi⟩:=hi
       rw [fL] at cz; cases cz
       exact h.YY r rfl g (by simpa [dO,ho,In] using hi)
      | false =>
       simp only [de,hr,hd,ho,Cv.row,Cv.inner,zA] at ha; subst ha
       simp only at hle ⊢
       rcases AS r ho with ⟨ht,hl⟩ | ⟨ht,hl⟩
       ·rw [hl] at hle
        refine shut _ _ hd de (by omega) (fun g hg hi=>toF g ?_ (by omega))
        obtain ⟨row',cz,hi⟩:=hi
        rw [fL] at cz; cases cz
        rw [ht] at hi; exact fzF g hg hi
       ·rw [hl] at hle
        refine shut _ _ hd de (by omega) (fun g hg hi=>toB g hg ?_ (by omega))
        obtain ⟨row',cz,hi⟩:=hi
        rw [fL] at cz; cases cz
        rw [ht] at hi; exact hi
   | _=>simp [de] at ha
 | nw r e' c' =>
  simp only [Lk.eH] at ha
  cases de:(m.vw (.nw r e' c')).ct with
  | none=>simp [de] at ha
  | some ct =>
   cases ct with
   | l τ y =>
    cases hr:m.r r with
    | none=>simp [de,hr,Cv.row] at ha
    | some row =>
     have fL:=hm.r r row hr
     cases hd:τ.deep with
     | true=>simp [de,hr,hd,Cv.row] at ha
     | false =>
      simp only [de,hr,hd,Cv.row,Cv.inner] at ha
      have fz4:(row.ow=4\/row.ow=3)->a=⟨.l τ y,none,none,4⟩->fU X O' w' (dR key e c dM) a.ct v:=by
       rintro ho rfl
       simp only at hle ⊢
       refine shut _ _ hd de (by omega) (fun g hg hi=>toF g ?_ (by omega))
       obtain ⟨row',cz,hi⟩:=hi
       rw [fL] at cz; cases cz
       exact fzF g hg (by rcases ho with ho | ho<;>rw [ho] at hi<;>exact hi)
      revert ha; split
      ·rename_i ho
       intro ha; cases ha
       simp only at hle ⊢
       refine shut _ _ hd de (by omega) (fun g hg hi=>toF g ?_ (by omega))
       obtain ⟨row',cz,hi⟩:=hi
       rw [fL] at cz; cases cz
       rw [ho] at hi
       exact h.WV r rfl g _ _ hi
      ·rename_i ho; intro ha; exact fz4 (.inl ho) (Option.some.inj ha).symm
      ·rename_i ho; intro ha; exact fz4 (.inr ho) (Option.some.inj ha).symm
      ·rename_i h5 h4 h3
       intro ha; cases ha
       simp only at hle ⊢
       refine shut _ _ hd de (by omega) (fun g hg hi=>toB g hg ?_ (by omega))
       obtain ⟨row',cz,hi⟩:=hi
       rw [fL] at cz; cases cz
       have:∀ e c,dR r e c row.ow= .mT:=by
        intro e c; simp only [dR]
       rw [this] at hi; exact hi
   | _=>simp [de] at ha
 | ns r e' c' off len =>
  simp only [Lk.eH] at ha
  cases de:(m.vw (.ns r e' c' off len)).ct with
  | none=>simp [de] at ha
  | some ct =>
   cases ct with
   | l τ y =>
    cases hr:m.r r with
    | none=>simp [de,hr,Cv.row] at ha
    | some row =>
     have fL:=hm.r r row hr
     cases hd:τ.deep with
     | true=>simp [de,hr,hd,Cv.row] at ha
     | false =>
      simp only [de,hr,hd,Cv.row,Cv.inner] at ha
      have fz4:(row.ow=4\/row.ow=3)->a=⟨.l τ y,none,none,4⟩->fU X O' w' (dR key e c dM) a.ct v:=by
       rintro ho rfl
       simp only at hle ⊢
       refine shut _ _ hd de (by omega) (fun g hg hi=>toF g ?_ (by omega))
       obtain ⟨row',cz,hi⟩:=hi
       rw [fL] at cz; cases cz
       exact fzF g hg (by rcases ho with ho | ho<;>rw [ho] at hi<;>exact hi)
      revert ha; split
      ·rename_i ho
       intro ha; cases ha
       simp only at hle ⊢
       refine shut _ _ hd de (by omega) (fun g hg hi=>toF g ?_ (by omega))
       obtain ⟨row',cz,hi⟩:=hi
       rw [fL] at cz; cases cz
       rw [ho] at hi
       exact h.WV r rfl g _ _ hi
      ·rename_i ho; intro ha; exact fz4 (.inl ho) (Option.some.inj ha).symm
      ·rename_i ho; intro ha; exact fz4 (.inr ho) (Option.some.inj ha).symm
      ·rename_i h5 h4 h3
       intro ha; cases ha
       simp only at hle ⊢
       refine shut _ _ hd de (by omega) (fun g hg hi=>toB g hg ?_ (by omega))
       obtain ⟨row',cz,hi⟩:=hi
       rw [fL] at cz; cases cz
       have:∀ e c,dR r e c row.ow= .mT:=by
        intro e c; simp only [dR]
       rw [this] at hi; exact hi
   | _=>simp [de] at ha
 | _=>simp [Lk.eH,Lk.vw,Vw.ct] at ha
structure IC (M:Lk) (γ:Gh) (w:World) (O':OM) (w':World) (xs:List Cv) (mv:List (Nat×(Nat×Nat))) (sh:List (Nat×Nat)) (key dM:Nat):Prop where
 heap:∀ g o,w.heap[g]? =some o->(∃ x∈xs,F2 M γ x g)->w'.heap[g]? =some o
 WM:∀ g,g<w.heap.size->(γ.O g=none\/γ.O g=some .fz)->O' g=γ.O g
 mv:∀ r e c,(r,(e,c))∈mv->∀ g,γ.O g=some (.r r)->In (dR key e c dM) (O' g)
 YY:∀ r,(r,3)∈sh->∀ g,γ.O g=some (.r r)->O' g=some .fz
 WV:∀ r,(r,4)∈sh->∀ g e c,γ.O g=some (.n r e c)->O' g=some .fz
theorem IC.mono {O':OM} {xs ys:List Cv} {mv mv':List (Nat×(Nat×Nat))} {sh sh':List (Nat×Nat)} {key dM:Nat} (h:IC M γ w O' w' xs mv sh key dM) (hx:∀ x∈ys,x∈xs) (D0:∀ p∈mv',p∈mv)
  (FB:∀ p∈sh',p∈sh):IC M γ w O' w' ys mv' sh' key dM :=
 ⟨fun g o hg hi=>h.heap g o hg (let ⟨x,zW,hi⟩:=hi; ⟨x,hx x zW,hi⟩),h.WM,
  fun r e c hr=>h.mv r e c (D0 _ hr),fun r hr=>h.YY r (FB _ hr),fun r hr=>h.WV r (FB _ hr)⟩
theorem BX (hm:Le m M) (hR:Rel X M γ w) {key dM e:Nat} (tx:dM=2\/dM=4\/dM=5) {O':OM} {w':World} :
  ∀ (vl:List Cv) (us:List Value) (c:Nat) (a:Ix),ca M γ vl us->m.bT e c vl=some a->dM<=a.lv->IC M γ w O' w' vl a.mv a.sh key dM ->
   a.iw.length=vl.length/\∀ j ct,a.iw[j]? =some ct->∃ u,us[j]? =some u/\fU X O' w' (dR key e (c+j) dM) ct u:=by
 intro vl
 induction vl with
 | nil=>intro us c a hr ha _ _; simp only [Lk.bT,zA] at ha; subst ha; exact ⟨rfl,by simp⟩
 | cons x vl ih =>
  intro us c a hr ha hle hO
  cases hr with
  | cons hx hl =>
   rename_i v us
   simp only [Lk.bT] at ha
   cases tt:m.eH x with
   | none=>simp [tt] at ha
   | some a1 =>
    cases eB:m.bT e (c+1) vl with
    | none=>simp [tt,eB] at ha
    | some a2 =>
     simp only [tt,eB,zA] at ha; subst ha
     simp only at hle hO ⊢
     have h2:IC M γ w O' w' vl a2.mv a2.sh key dM:=hO.mono (fun x hx=>zJ _ hx) (fun p hp=>by split; exact zJ _ hp; exact hp)
      (fun p hp=>by split; exact zJ _ hp; exact hp)
     obtain ⟨i1,i2⟩:=ih us (c+1) a2 hl eB (by omega) h2
     have h1:AbO M γ w O' w' x a1 key e c dM:=by
      refine ⟨fun g o hg hi=>hO.heap g o hg ⟨x,by simp,hi⟩,hO.WM,fun r hr=> ?_,fun r hr=> ?_,fun r hr=> ?_⟩
      ·have:=hO.mv r e c (by rw [hr]; simp)
       exact this
      ·exact hO.YY r (by rw [hr]; simp)
      ·exact hO.WV r (by rw [hr]; simp)
     have h0:=L1 hm hR hx tt (key:=key) (e:=e) (c:=c) tx (by omega) h1
     refine ⟨by simp [i1],fun j ct hj=> ?_⟩
     cases j with
     | zero=>simp only [List.getElem?_cons_zero,zA] at hj; subst hj; exact ⟨v,rfl,h0⟩
     | succ j =>
      obtain ⟨u,hu,hc⟩:=i2 j ct (by simpa using hj)
      exact ⟨u,by simpa using hu,by rw [show c+(j+1)=c+1+j by omega]; exact hc⟩
theorem ql {τ:Ty} {l:List Ct} {y:El τ} (h:rV τ l=some y) (hb:τ.isByte=true->CG τ l=true):cells τ y=l:=by
 revert h hb
 fun_cases rV τ l
 case case3 n =>
  intro h hb
  cases h
  have hb:=hb rfl
  simp only [CG,zB,zD] at hb
  obtain ⟨h0,h1⟩:=hb
  have:((UInt8.ofNat n.toNat).toNat:Int)=n:=by
   have h2:n.toNat<256:=by omega
   simp only [UInt8.toNat_ofNat']
   rw [Nat.mod_eq_of_lt (by simpa using h2)]
   omega
  simp only [cells,this]
 all_goals (intro h hb; first | (cases h; rfl) | (exfalso; rw [rV.eq_11 _ _ (by assumption) (by assumption) (by assumption) (by assumption) (by assumption) (by assumption) (by assumption) (by assumption) (by assumption) (by assumption)] at h; cases h))
theorem fg {a:Nat} {l:List Nat}:cg a l=true↔a∈l:=by
 induction l with
 | nil=>simp [cg]
 | cons b l ih =>
  simp only [cg,zI]
  cases h:Nat.beq b a with
  | true=>have:=aG h; simp [this]
  | false =>
   simp only [ih]; constructor
   ·exact .inr
   ·rintro (rfl | h')
    ·rw [Nat.beq_refl] at h; cases h
    ·exact h'
theorem gE {l:List Nat}:fv l=true↔l.Nodup:=by
 induction l with
 | nil=>simp [fv]
 | cons a l ih =>
  simp only [fv,List.nodup_cons,← fg]
  cases h:cg a l<;>simp [ih]
theorem keys_eq {α:Type} (l:List (Nat×α)):keys l=l.map (·.1):=by
 induction l with
 | nil=>rfl
 | cons p l ih=>obtain ⟨k,v⟩:=p; simp [keys,ih]
theorem cO {α:Type} {l:List (Nat×α)} {k:Nat} {v:α} (h:lk l k=some v):(k,v)∈l:=by
 induction l with
 | nil=>simp [lk] at h
 | cons p l ih =>
  obtain ⟨j,u⟩:=p
  simp only [lk] at h
  cases hj:Nat.beq j k with
  | true=>simp only [hj,zA] at h; have:=aG hj; subst this; subst h; simp
  | false=>simp only [hj] at h; exact zJ _ (ih h)
theorem cG {α:Type} {l:List (Nat×α)} {k:Nat}:lk l k=none↔k∉keys l:=by
 induction l with
 | nil=>simp [lk,keys]
 | cons p l ih =>
  obtain ⟨j,u⟩:=p
  simp only [lk,keys,zI,not_or]
  cases hj:Nat.beq j k with
  | true=>have:=aG hj; simp [this]
  | false =>
   simp only [ih]; constructor
   ·intro h; exact ⟨(by rintro rfl; rw [Nat.beq_refl] at hj; cases hj),h⟩
   ·exact fun h=>h.2
theorem mem_keys {α:Type} {l:List (Nat×α)} {k:Nat} {v:α} (h:(k,v)∈l):k∈keys l:=by rw [keys_eq]; exact List.mem_map_of_mem h
theorem fZ {α:Type} {l:List (Nat×α)} {k:Nat} {v:α} (hn:(keys l).Nodup) (h:(k,v)∈l):lk l k=some v:=by
 induction l with
 | nil=>simp at h
 | cons p l ih =>
  obtain ⟨j,u⟩:=p
  simp only [keys,List.nodup_cons] at hn
  simp only [lk]
  rcases zI.1 h with h | h
  ·cases h; simp [Nat.beq_refl]
  ·have cR:Nat.beq j k=false:=by
    cases hj:Nat.beq j k with
    | false=>rfl
    | true=>have:=aG hj; subst this; exact absurd (mem_keys h) hn.1
   simp [cR,ih hn.2 h]
theorem ia {α:Type} (a b:List (Nat×α)) (k:Nat):fk (a++b) k=match fk b k with | some v=>some v | none=>fk a k:=by
 induction a with
 | nil=>simp [fk]; cases fk b k<;>rfl
 | cons p a ih =>
  obtain ⟨j,u⟩:=p
  simp only [List.cons_append,fk,ih]
  cases fk b k<;>rfl
theorem Kc {α:Type} (j:Nat) (v:α) (k:Nat):fk [(j,v)] k=if j=k then some v else none:=rfl
def dn (dM key e c:Nat):Ow:=match dM with | 5=> .n key e c | _=> .fz
theorem Kl {dM key e c:Nat} (tx:dM=2\/dM=4\/dM=5):In (dR key e c dM) (some (dn dM key e c)):=by
 rcases tx with rfl | rfl | rfl
 ·exact .inr rfl
 ·exact rfl
 ·exact rfl
structure Ro where
 key:Nat
 dM:Nat
 qg:Bool
 dead:Nat->Nat->Bool
 mv:List (Nat×(Nat×Nat))
 sh:List (Nat×Nat)
def Ro.f (a:Ro):Ow->Option Ow
 | .r k=>match lk a.mv k with
  | some (e,c)=>some (dn a.dM a.key e c)
  | none=>match lk a.sh k with
   | some 3=>some .fz
   | _=>if k=a.key then (if a.qg then some (.r k) else none) else some (.r k)
 | .n k e c=>match lk a.sh k with
  | some _=>some .fz
  | none=>if k=a.key then (if a.dead e c then none else some (dn a.dM a.key e c)) else some (.n k e c)
 | o=>some o
def Ro.R (a:Ro) (r:Nat):Prop:=r=a.key\/r∈keys a.mv\/r∈keys a.sh
def Ro.O (a:Ro) (O:OM) (nb:Option Nat):OM:=fun g=>if some g=nb then some (.r a.key) else (O g).bind a.f
def Ro.apart (a:Ro):Prop:=(a.key::(keys a.mv++keys a.sh)).Nodup
theorem Ro.OK (a:Ro) {o:Ow} (h:∀ r,a.R r->o≠ .r r/\∀ e c,o≠ .n r e c):a.f o=some o:=by
 cases o with
 | r k =>
  have hk:¬ a.R k:=fun hr=>(h k hr).1 rfl
  simp only [Ro.R,not_or] at hk
  simp [Ro.f,cG.2 hk.2.1,cG.2 hk.2.2,hk.1]
 | n k e c =>
  have hk:¬ a.R k:=fun hr=>(h k hr).2 e c rfl
  simp only [Ro.R,not_or] at hk
  simp [Ro.f,cG.2 hk.2.2,hk.1]
 | _=>rfl
theorem Ro.W2 (a:Ro) (cm:∀ g,w.heap.size<=g->γ.O g=none) {nb:Option Nat} {rv':Nat->Value} {cv':Nat->List Value} (Yt:w'.os=w.os) (Co:w'.tape=w.tape)
  (vK:w'.output=w.output) (mi:w.heap.size<=w'.heap.size) (hn:∀ g,some g=nb->w.heap.size<=g/\g<w'.heap.size)
  (hb:∀ g,g<w.heap.size->γ.O g≠some (.r a.key)->w'.heap[g]? =w.heap[g]?) (vP:∀ r,r≠a.key->rv' r=γ.rv r/\cv' r=γ.cv r) :
  Ku a.R γ w { γ with O:=a.O γ.O nb,rv:=rv',cv:=cv' } w':=by
 refine ⟨Yt,Co,vK,mi,fun g hg hk=>⟨hb g hg ?_,?_⟩,fun g hg=> ?_,rfl,fun r hr=>vP r fun e=>hr (.inl e)⟩
 ·exact (hk a.key (.inl rfl)).1
 ·have B8:¬ some g=nb:=fun h=>by have:=hn g h; omega
  simp only [Ro.O,if_neg B8]
  cases ho:γ.O g with
  | none=>rfl
  | some o =>
   show a.f o=some o
   exact a.OK fun r hr=>by
    obtain ⟨h1,h2⟩:=hk r hr
    rw [ho] at h1 h2
    exact ⟨fun e=>h1 (congrArg some e),fun e c e'=>h2 e c (congrArg some e')⟩
 ·have B8:¬ some g=nb:=fun h=>by have:=hn g h; omega
  simp only [Ro.O,if_neg B8,cm g (Nat.le_trans mi hg)]
  rfl
theorem Ro.Xo (a:Ro) (la:a.apart) (tx:a.dM=2\/a.dM=4\/a.dM=5) {nb:Option Nat} (hn:∀ g,some g=nb->w.heap.size<=g) (cm:∀ g,w.heap.size<=g->γ.O g=none) {xs:List Cv}
  (heap:∀ g o,w.heap[g]? =some o->(∃ x∈xs,F2 M γ x g)->w'.heap[g]? =some o) :
  IC M γ w (a.O γ.O nb) w' xs a.mv a.sh a.key a.dM:=by
 have hmn:(keys a.mv).Nodup:=by
  have:=la; simp only [Ro.apart,List.nodup_cons,List.nodup_append] at this; exact this.2.1
 have Vv:(keys a.sh).Nodup:=by
  have:=la; simp only [Ro.apart,List.nodup_cons,List.nodup_append] at this; exact this.2.2.1
 have Nn:∀ k,k∈keys a.sh->lk a.mv k=none:=by
  intro k hk
  rw [cG]
  intro uA
  have:=la; simp only [Ro.apart,List.nodup_cons,List.nodup_append] at this
  exact this.2.2.2 k uA k hk rfl
 have hO:∀ g o,γ.O g=some o->a.O γ.O nb g=a.f o:=by
  intro g o ho
  have B8:¬ some g=nb:=fun h=>by have:=cm g (hn g h); rw [this] at ho; cases ho
  simp only [Ro.O,if_neg B8,ho]; rfl
 refine ⟨heap,fun g hg hi=> ?_,fun r e c hr g hg=> ?_,fun r hr g hg=> ?_,fun r hr g e c hg=> ?_⟩
 ·rcases hi with h | h
  ·have B8:¬ some g=nb:=fun h'=>by have:=hn g h'; omega
   simp only [Ro.O,if_neg B8,h]; rfl
  ·rw [hO g _ h,h]; rfl
 ·rw [hO g _ hg]
  simp only [Ro.f,fZ hmn hr]
  exact Kl tx
 ·rw [hO g _ hg]
  simp only [Ro.f,Nn r (mem_keys hr),fZ Vv hr]
 ·rw [hO g _ hg]
  simp only [Ro.f,fZ Vv hr]
theorem Ro.shared (a:Ro) (la:a.apart) {nb:Option Nat} (hn:∀ g,some g=nb->w.heap.size<=g) (cm:∀ g,w.heap.size<=g->γ.O g=none)
  (hb:∀ g,g<w.heap.size->γ.O g≠some (.r a.key)->w'.heap[g]? =w.heap[g]?) {r k:Nat} {row:Row} {v:Value} {cs:List Value} (bo:cP X γ.O w r row v cs) (hr:(r,k)∈a.sh)
  (hk:(k=3/\nF 4 row.ow=true)\/(k=4/\row.ow=5)):cP X (a.O γ.O nb) w' r { row with ow:=k } v cs:=by
 have Vv:(keys a.sh).Nodup:=by
  have:=la; simp only [Ro.apart,List.nodup_cons,List.nodup_append] at this; exact this.2.2.1
 have Nn:lk a.mv r=none:=by
  rw [cG]
  intro uA
  have:=la; simp only [Ro.apart,List.nodup_cons,List.nodup_append] at this
  exact this.2.2.2 r uA r (mem_keys hr) rfl
 have uB:r≠a.key:=by
  have:=la; simp only [Ro.apart,List.nodup_cons,zH,not_or] at this
  rintro rfl; exact this.1.2 (mem_keys hr)
 have hO:∀ g o,γ.O g=some o->a.O γ.O nb g=a.f o:=by
  intro g o ho
  have B8:¬ some g=nb:=fun h=>by have:=cm g (hn g h); rw [this] at ho; cases ho
  simp only [Ro.O,if_neg B8,ho]; rfl
 have zY:=fZ Vv hr
 have gM:row.ow=4\/row.ow=5:=by
  rcases hk with ⟨_,h⟩ | ⟨_,h⟩
  ·revert h; simp only [nF]; split<;>simp_all
  ·exact .inr h
 have fr:(k=3->a.f (.r r)=some .fz)/\(k=4->a.f (.r r)=some (.r r)):=by
  refine ⟨fun h=> ?_,fun h=> ?_⟩
  ·subst h; simp only [Ro.f,Nn,zY]
  ·subst h; simp only [Ro.f,Nn,zY]
   show (if r=a.key then _ else some (Ow.r r))=_
   rw [if_neg uB]
 refine bo.re ?_ (fun g o hg hi=> ?_) (fun e c g o hg hi=> ?_)
 ·rcases hk with ⟨rfl,_⟩ | ⟨rfl,h⟩
  ·rcases gM with h | h<;>rw [h]<;>rfl
  ·rw [h]; rfl
 ·have hi:γ.O g=some (.r r):=by rcases gM with h | h<;>rw [h] at hi<;>exact hi
  refine ⟨(hb g (bW hg) (by rw [hi]; simp; exact uB)).trans hg,?_⟩
  rw [hO g _ hi]
  rcases hk with ⟨rfl,_⟩ | ⟨rfl,_⟩
  ·rw [fr.1 rfl]; rfl
  ·rw [fr.2 rfl]; rfl
 ·have hi:γ.O g=some (.n r e c)\/γ.O g=some .fz:=by
   rcases gM with h | h<;>rw [h] at hi
   ·exact .inr hi
   ·exact .inl hi
  have h5:a.O γ.O nb g=some .fz:=by
   rcases hi with hi | hi
   ·rw [hO g _ hi]; simp only [Ro.f,zY]
   ·rw [hO g _ hi]; rfl
  refine ⟨(hb g (bW hg) (by rcases hi with h | h<;>rw [h]<;>simp)).trans hg,?_⟩
  rw [h5]
  rcases hk with ⟨rfl,_⟩ | ⟨rfl,_⟩<;>rfl
theorem OD (hR:Rel X S.lk γ w)
  (D0:∀ r d e c row,lk δ.mv r=some (d,e,c)->S.lk.r r=some row->∃ row',(S.app δ).lk.r d=some row'/\e<row'.xs.length/\(row'.cs e)[c]? =some (.l row.τ row.xs) /\
   (γ'.cv d)[e*sz row'.τ+c]? =some (γ.rv r))
  (hw:∀ r row,S.lk.r r=some row->lk δ.mv r=none->cg r δ.kr=false->(∃ row',(S.app δ).lk.r r=some row')/\γ'.rv r=γ.rv r)
  (hr:∀ r row row',S.lk.r r=some row->lk δ.mv r=none->cg r δ.kr=false->cg r δ.ke=false->(S.app δ).lk.r r=some row'->row'.τ=row.τ/\row.xs.length<=row'.xs.length)
  (hn:∀ r,lk δ.mv r=none->cg r δ.kr=false->cg r δ.ke=false->cg r δ.kn=false->NK S.lk γ (S.app δ).lk γ' r)
  (hv:∀ k cs,S.lk.v k=some cs->cg k δ.kv=false->(∃ cs',(S.app δ).lk.v k=some cs')/\γ'.vb k=γ.vb k) :
  ∀ x v,bq S.lk γ x v->bq (S.app δ).lk γ' (δ.map x) v:=by
 intro x v hx
 rcases Db δ x with h | ⟨h,h1,h2⟩ | ⟨r,d,e,c,h,hh⟩
 ·rw [h]; exact hx.one hR
 ·rw [h]
  by_cases hs:∃ r,x= .sw r
  ·obtain ⟨r,rfl⟩:=hs
   obtain ⟨⟨row,bo⟩,rfl⟩:=hx
   obtain ⟨h0,h3,_⟩:=h1 r rfl
   obtain ⟨h4,h5⟩:=hw r row bo h0 h3
   exact ⟨h4,h5.symm⟩
  ·have Cl:∀ s,x≠ .sw s:=fun s e=>hs ⟨s,e⟩
   have bo:∀ r,x.row=some r->∃ row,S.lk.r r=some row:=by
    intro r Nj
    cases x<;>simp [Cv.row] at Nj<;>subst Nj
    case sw r=>exact absurd rfl (Cl r)
    case sl=>obtain ⟨row,h,_⟩:=hx; exact ⟨row,h⟩
    case nw=>obtain ⟨row,_,_,h,_⟩:=hx; exact ⟨row,h⟩
    case ns=>obtain ⟨row,_,_,_,h,_⟩:=hx; exact ⟨row,h⟩
    case pe=>obtain ⟨row,h,_⟩:=hx; exact ⟨row,h⟩
    case pn=>obtain ⟨row,_,_,_,h,_⟩:=hx; exact ⟨row,h⟩
   have CO:∀ k∈x.vk,∃ cs,S.lk.v k=some cs:=by
    intro k hk
    cases x<;>simp [Cv.vk] at hk
    case pv=>subst hk; exact hx.1
    case fn=>exact hx.1 k hk
   refine hx.re (fun r cz=> ?_) (fun r cz hi=> ?_) (fun k hk=> ?_)
   ·obtain ⟨h0,h3,h4,_⟩:=h1 r cz
    obtain ⟨row,KQ⟩:=bo r cz
    obtain ⟨⟨row',h5⟩,h6⟩:=hw r row KQ h0 h3
    refine ⟨fun row2 h7=> ?_,h6⟩
    rw [KQ] at h7; cases h7
    obtain ⟨h8,h9⟩:=hr r row row' KQ h0 h3 (h4 Cl) h5
    exact ⟨row',h5,h8,h9⟩
   ·obtain ⟨h0,h3,h4,h5⟩:=h1 r cz
    exact hn r h0 h3 (h4 Cl) (h5 hi)
   ·obtain ⟨cs,iX⟩:=CO k hk
    obtain ⟨h3,h4⟩:=hv k cs iX (h2 k hk)
    exact ⟨fun _ _=>h3,h4⟩
 ·rcases hh with ⟨rfl,hm⟩ | ⟨o,n,rfl,hm⟩ | ⟨k,i,rfl,hm⟩
  ·obtain ⟨⟨row,bo⟩,rfl⟩:=hx
   obtain ⟨row',h1,h2,h3,h4⟩:=D0 r d e c row h bo
   rw [hm]; exact ⟨row',row.τ,row.xs,h1,h2,h3,h4⟩
  ·obtain ⟨row,bo,hle,hs⟩:=hx
   obtain ⟨row',h1,h2,h3,h4⟩:=D0 r d e c row h bo
   rw [hm]; exact ⟨row',row.τ,row.xs,_,h1,h2,h3,h4,hle,hs⟩
  ·obtain ⟨row,bo,hle,hs⟩:=hx
   obtain ⟨row',h1,h2,h3,h4⟩:=D0 r d e c row h bo
   rw [hm]; exact ⟨row',row.τ,row.xs,_,h1,h2,h3,h4,hle,hs⟩
theorem tZ {α:Type} (l m:List α) (i N:Nat) (h:i+m.length<=N) (hN:N<=l.length):(Soft.cQ l i m).take N=Soft.cQ (l.take N) i m:=by
 apply List.ext_getElem?
 intro j
 rw [List.getElem?_take]
 rcases Nat.lt_trichotomy j i with hj | hj | hj
 ·rw [if_pos (by omega),cT _ _ _ _ hj (by omega),cT _ _ _ _ hj (by simp; omega),List.getElem?_take,if_pos (by omega)]
 all_goals
  by_cases h2:j<i+m.length
  ·obtain ⟨d,rfl⟩:∃ d,j=i+d:=⟨j-i,by omega⟩
   rw [if_pos (by omega),dK _ _ _ _ (by omega) (by omega),dK _ _ _ _ (by omega) (by simp; omega)]
  ·rw [cS _ _ _ _ (by omega) (by omega),cS _ _ _ _ (by omega) (by simp; omega),List.getElem?_take]
theorem oC {a:Nat} (h:ej a=true):a=2\/a=4\/a=5:=by revert h; simp only [ej]; split<;>simp_all
theorem tV {a:Nat} (h:ej a=true):a≠1:=by rcases oC h with rfl | rfl | rfl<;>decide
theorem Ji {r:Nat} {row':Row} (h:row'.ow≠1) (k:Nat) (row:Row) (e:(if r=k then some (some row') else none)=some (some row)) (h1:row.ow=1):k<100000:=by
 by_cases hk:r=k
 ·rw [if_pos hk] at e; cases e; exact absurd h1 h
 ·rw [if_neg hk] at e; cases e
theorem EK {a l:Nat} (h:ej a=true) (hl:l=2\/l=4\/l=5):(min a l=2\/min a l=4\/min a l=5)/\ej (min a l)=true/\nF (min a l) a=true:=by
 rcases oC h with rfl | rfl | rfl<;>rcases hl with rfl | rfl | rfl<;>simp [ej,nF]
theorem Lg {x:Cv} {a:Ab} (h:m.eH x=some a):a.lv=2\/a.lv=4\/a.lv=5:=by
 have lv:∀ n,Rh n=2\/Rh n=4\/Rh n=5:=by intro n; simp only [Rh]; split<;>simp
 revert h; simp only [Lk.eH]
 repeat' split
 all_goals (intro h; first | (cases h; done) | (have:=Option.some.inj h; subst this; first | (simp; done) | exact lv _))
theorem qv:∀ {vl:List Cv} {e c:Nat} {a:Ix},m.bT e c vl=some a->a.lv=2\/a.lv=4\/a.lv=5
 | [],e,c,a,h=>by simp only [Lk.bT,zA] at h; subst h; simp
 | x::vl,e,c,a,h=>by
  simp only [Lk.bT] at h
  cases h1:m.eH x with
  | none=>simp [h1] at h
  | some a1 =>
   cases h2:m.bT e (c+1) vl with
   | none=>simp [h1,h2] at h
   | some a2 =>
    simp only [h1,h2,zA] at h; subst h
    have:=Lg h1
    have:=qv h2
    simp only; omega
theorem Lv {x:Cv} {a:Ab} {r k:Nat} (h:m.eH x=some a) (hs:a.sh=some (r,k)):∃ row,m.r r=some row/\((k=3/\nF 4 row.ow=true)\/(k=4/\row.ow=5)):=by
 revert h; simp only [Lk.eH]
 repeat' split
 all_goals (intro h; first | (cases h; done) | (have:=Option.some.inj h; subst this; simp only [reduceCtorEq,zA,zG] at hs))
 ·obtain ⟨rfl,rfl⟩:=hs
  rename_i h1 h2 h3 _ h5
  exact ⟨_,by assumption,.inr ⟨rfl,by assumption⟩⟩
 ·obtain ⟨rfl,rfl⟩:=hs
  exact ⟨_,by assumption,.inl ⟨rfl,by assumption⟩⟩
theorem lN:∀ {vl:List Cv} {e c:Nat} {a:Ix} {r k:Nat},m.bT e c vl=some a->(r,k)∈a.sh->∃ row,m.r r=some row/\((k=3/\nF 4 row.ow=true)\/(k=4/\row.ow=5))
 | [],e,c,a,r,k,h,hs=>by simp only [Lk.bT,zA] at h; subst h; simp at hs
 | x::vl,e,c,a,r,k,h,hs=>by
  simp only [Lk.bT] at h
  cases h1:m.eH x with
  | none=>simp [h1] at h
  | some a1 =>
   cases h2:m.bT e (c+1) vl with
   | none=>simp [h1,h2] at h
   | some a2 =>
    simp only [h1,h2,zA] at h; subst h
    simp only at hs
    cases h3:a1.sh with
    | none=>rw [h3] at hs; exact lN h2 hs
    | some p =>
     rw [h3] at hs
     rcases zI.1 hs with h4 | h4
     ·exact Lv h1 (by rw [h3,← h4])
     ·exact lN h2 h4
theorem mJ:∀ {vl:List Cv} {e c:Nat} {a:Ix},m.bT e c vl=some a->a.iw.length=vl.length
 | [],e,c,a,h=>by simp only [Lk.bT,zA] at h; subst h; rfl
 | x::vl,e,c,a,h=>by
  simp only [Lk.bT] at h
  cases h1:m.eH x with
  | none=>simp [h1] at h
  | some a1 =>
   cases h2:m.bT e (c+1) vl with
   | none=>simp [h1,h2] at h
   | some a2 =>
    simp only [h1,h2,zA] at h; subst h
    simp [mJ h2]
theorem LQ {x:Cv} {a:Ab} {r:Nat} (h:m.eH x=some a) (hs:a.mv=some r):∃ row,m.r r=some row/\x= .sw r/\a.ct= .l row.τ row.xs:=by
 revert h; simp only [Lk.eH]
 repeat' split
 all_goals (intro h; first | (cases h; done) | (have:=Option.some.inj h; subst this; simp only [reduceCtorEq,zA] at hs))
 subst hs
 exact ⟨_,by assumption,rfl,rfl⟩
theorem A1:∀ {vl:List Cv} {e c:Nat} {a:Ix} {r e' c':Nat},m.bT e c vl=some a->(r,(e',c'))∈a.mv->∃ row j,m.r r=some row/\e'=e/\c'=c+j/\vl[j]? =some (.sw r)/\a.iw[j]? =some (.l row.τ row.xs)
 | [],e,c,a,r,e',c',h,hs=>by simp only [Lk.bT,zA] at h; subst h; simp at hs
 | x::vl,e,c,a,r,e',c',h,hs=>by
  simp only [Lk.bT] at h
  cases h1:m.eH x with
  | none=>simp [h1] at h
  | some a1 =>
   cases h2:m.bT e (c+1) vl with
   | none=>simp [h1,h2] at h
   | some a2 =>
    simp only [h1,h2,zA] at h; subst h
    simp only at hs
    have rest:(r,(e',c'))∈a2.mv->∃ row j,m.r r=some row/\e'=e/\c'=c+j/\(x::vl)[j]? =some (.sw r)/\(a1.ct::a2.iw)[j]? =some (.l row.τ row.xs):=by
     intro h4
     obtain ⟨row,j,h5,h6,h7,h8,h9⟩:=A1 h2 h4
     exact ⟨row,j+1,h5,h6,by omega,by simpa using h8,by simpa using h9⟩
    cases h3:a1.mv with
    | none=>rw [h3] at hs; exact rest hs
    | some k =>
     rw [h3] at hs
     rcases zI.1 hs with h4 | h4
     ·simp only [zG] at h4
      obtain ⟨rfl,rfl,rfl⟩:=h4
      obtain ⟨row,h5,rfl,h7⟩:=LQ h1 h3
      exact ⟨row,0,h5,rfl,rfl,rfl,by simpa using h7⟩
     ·exact rest h4
theorem IU {x:Cv} {a:Ab} {r:Nat} {row:Row} (h:m.eH x=some a) (hx:x= .sw r\/∃ o n,x= .sl r o n) (hr:m.r r=some row) (ho:ej row.ow=true):a.mv=some r\/∃ k,a.sh=some (r,k):=by
 rcases hx with rfl | ⟨o,n,rfl⟩
 ·simp only [Lk.eH,hr,ho] at h
  revert h; split
  ·intro h; cases h
  ·intro h; cases h; exact .inl rfl
 ·simp only [Lk.eH,Cv.row,Cv.inner,hr,ho] at h
  revert h
  repeat' split
  all_goals (intro h; first | (cases h; done) | (cases h; exact .inr ⟨_,rfl⟩) | skip)
  all_goals simp_all
  all_goals (subst h; exact .inr ⟨_,rfl⟩)
theorem yH:∀ {vl:List Cv} {e c:Nat} {a:Ix} {x:Cv} {r:Nat} {row:Row},m.bT e c vl=some a->x∈vl->(x= .sw r\/∃ o n,x= .sl r o n)->m.r r=some row->ej row.ow=true ->
  r∈keys a.mv\/r∈keys a.sh
 | [],e,c,a,x,r,row,h,hx,_,_,_=>by simp at hx
 | y::vl,e,c,a,x,r,row,h,hx,Nj,hr,ho=>by
  simp only [Lk.bT] at h
  cases h1:m.eH y with
  | none=>simp [h1] at h
  | some a1 =>
   cases h2:m.bT e (c+1) vl with
   | none=>simp [h1,h2] at h
   | some a2 =>
    simp only [h1,h2,zA] at h; subst h
    simp only
    rcases zI.1 hx with rfl | hx
    ·rcases IU h1 Nj hr ho with h3 | ⟨k,h3⟩
     ·left; rw [h3]; simp [keys]
     ·right; rw [h3]; simp [keys]
    ·rcases yH h2 hx Nj hr ho with h3 | h3
     ·left; split
      ·simp [keys,h3]
      ·exact h3
     ·right; split
      ·simp [keys,h3]
      ·exact h3
def qy (r e c:Nat) (row:Row) (vl:List Cv) (a:Ix):Ro :=
 ⟨r,min row.ow a.lv,true,fun e' c'=>decide (e'=e)&&(decide (c<=c')&&decide (c'<c+vl.length)),a.mv,a.sh⟩
def QC (γ:Gh) (r e c:Nat) (row:Row) (vl:List Cv) (a:Ix) (us:List Value):Gh :=
 { γ with O:=(qy r e c row vl a).O γ.O none,cv:=dU γ.cv r (Soft.cQ (γ.cv r) (e*sz row.τ+c) us) }
theorem u7 {r e c ow k:Nat} {o:Option Ow} (h:In (dR r e c ow) o):o≠some (.r k):=by
 revert h; simp only [dR]; split
 ·intro h; have h:o=_:=h; rw [h]; simp
 ·intro h; have h:o=_:=h; rw [h]; simp
 ·intro h; have h:o=_:=h; rw [h]; simp
 ·rintro (h | h)<;>rw [h]<;>simp
theorem Ro.nes (a:Ro) (hk:a.key∉keys a.sh) {r8:Nat} (hold:ej r8=true) (tx:a.dM=2\/a.dM=4\/a.dM=5) (hle:nF a.dM r8=true) {e c g:Nat} {O:OM} (hd:a.dead e c=false)
  (h:In (dR a.key e c r8) (O g)):In (dR a.key e c a.dM) (a.O O none g):=by
 have hn:O g=none->a.O O none g=none:=fun h=>by simp [Ro.O,h]
 have hf:O g=some .fz->a.O O none g=some .fz:=fun h=>by simp [Ro.O,h,Ro.f]
 have ho:O g=some (.n a.key e c)->a.O O none g=some (dn a.dM a.key e c):=fun h=>by simp [Ro.O,h,Ro.f,cG.2 hk,hd]
 rcases oC hold with rfl | rfl | rfl
 ·have h2:a.dM=2:=by rcases tx with h | h | h<;>rw [h] at hle<;>simp_all [nF]
  rw [h2]
  rcases h with h | h
  ·exact .inl (hn h)
  ·exact .inr (hf h)
 ·have h:O g=some .fz:=h
  rcases tx with h2 | h2 | h2
  ·rw [h2]; exact .inr (hf h)
  ·rw [h2]; exact hf h
  ·rw [h2] at hle; simp [nF] at hle
 ·have h:O g=some (.n a.key e c):=h
  rw [ho h]
  exact Kl tx
theorem OS (hR:Rel X S.lk γ w) (cm:∀ g,w.heap.size<=g->γ.O g=none) (hm:Le m S.lk) {r e c:Nat} {row:Row} {vl:List Cv} {a:Ix} {y:El row.τ} {av v:Value} {t:TypeId}
  (hr:m.r r=some row) (ho:ej row.ow=true) (ha:m.bT e c vl=some a) (hlen:c+vl.length<=sz row.τ) (hy:rV row.τ (Soft.cQ (row.cs e) c a.iw)=some y)
  (xt:CG row.τ a.iw=true) (la:(qy r e c row vl a).apart) (hv:ca S.lk γ vl v.cells.toList) (Qw:bq S.lk γ (.pe r e c) av) (hs:vl.length=fS X.P t) (hp:0<vl.length) :
  ∃ w',(Instr.storeAt t av v).run X.P w= .ok () w'/\Ku (qy r e c row vl a).R γ w (QC γ r e c row vl a v.cells.toList) w' /\
   cP X ((qy r e c row vl a).O γ.O none) w' r { row with xs:=row.xs.set e y,ow:=min row.ow a.lv } (γ.rv r) (Soft.cQ (γ.cv r) (e*sz row.τ+c) v.cells.toList) /\
   (∀ g,g<w.heap.size->γ.O g≠some (.r r)->w'.heap[g]? =w.heap[g]?)/\(∀ e':Nat,e'≠e->({ row with xs:=row.xs.set e y,ow:=min row.ow a.lv }:Row).cs e'=row.cs e') /\
   (({ row with xs:=row.xs.set e y,ow:=min row.ow a.lv }:Row).cs e=Soft.cQ (row.cs e) c a.iw)/\e<row.xs.length:=by
 have fL:=hm.r r row hr
 obtain ⟨row',cz,he,g,o,n',cap,hb,rfl⟩:=Qw
 rw [fL] at cz; cases cz
 have bo:=hR.rs r row fL
 have Cb:dO r row.ow= .own (.r r):=by simp [dO,ho]
 have Co:=bo.top
 rw [Cb] at Co
 obtain ⟨gM,oP⟩:=Co
 obtain ⟨VO,acG,XK⟩:=EK ho (qv ha)
 have hul:v.cells.size=vl.length:=by have:=hv.length; simp at this; omega
 rcases gM.2 with ⟨h1,_⟩ | ⟨g1,cap1,cur,h1,_,hg,HM,QQ,iX,ht⟩
 ·rw [h1] at hb; cases hb
 have M3:g1=g/\0=o:=by
  rw [h1] at hb; injection hb with h _ _; injection h with h; injection h with h2 h3 _; exact ⟨h2,h3⟩
 obtain ⟨rfl,rfl⟩:=M3
 have Qc:γ.O g1=some (.r r):=oP g1 (by rw [h1]; rfl)
 have fM:=bW hg
 have Ve:(e+1)*sz row.τ<=row.xs.length*sz row.τ:=zP _ he
 rw [Nat.add_mul] at Ve
 have Wt:row.xs.length*sz row.τ<=cur.size:=by rw [iX]; exact zP _ HM
 have mQ:(γ.cv r).length=row.xs.length*sz row.τ:=gM.1
 have ng:=yj (X:=X) (t:=t) (v:=v) (o:=0+(e*sz row.τ+c)) hg (by omega) (by omega) (by omega) (hv.one hR)
 rw [Nat.zero_add] at ng
 have jY:∀ g,g<w.heap.size->γ.O g≠some (.r r)->(w.setRow g1 (Soft.cQ cur.toList (e*sz row.τ+c) v.cells.toList).toArray).heap[g]? =w.heap[g]? :=
  fun g _ cR=>l8 w _ _ g (fun h=>cR (by rw [h]; exact Qc))
 have acU:=ql hy (fun MN=>by
  have gZ:row.τ= .byte:=by revert MN; cases row.τ<;>simp [Ty.isByte]
  have:Soft.cQ (row.cs e) c a.iw=a.iw:=by
   have h2:sz row.τ=1:=by rw [gZ]; rfl
   have h3:(row.cs e).length=1:=by rw [vy,bd,h2]
   have h4:=(mJ ha)
   have h5:c=0:=by omega
   subst h5
   have h6:vl.length=1:=by omega
   simp only [Soft.cQ,h4,h6,List.take_zero,List.nil_append,Nat.zero_add]
   rw [List.drop_of_length_le (by omega),List.append_nil]
  rw [this]; exact xt)
 have T6:a.iw.length=vl.length:=mJ ha
 have Vt:(row.cs e).length=sz row.τ:=bd _ _
 have zk:({ row with xs:=row.xs.set e y,ow:=min row.ow a.lv }:Row).cs e=Soft.cQ (row.cs e) c a.iw:=by
  simp only [Row.cs]
  rw [show (row.xs.set e y).getD e (ch row.τ)=y by simp [List.getD,he]]
  exact acU
 have Fm:∀ e':Nat,e'≠e->({ row with xs:=row.xs.set e y,ow:=min row.ow a.lv }:Row).cs e'=row.cs e':=by
  intro e' cR
  simp only [Row.cs]
  rw [show (row.xs.set e y).getD e' (ch row.τ)=row.xs.getD e' (ch row.τ) by simp [List.getD,List.getElem?_set,Ne.symm cR]]
 have KQ:r∉keys a.mv/\r∉keys a.sh:=by
  have:=la; simp only [Ro.apart,qy,List.nodup_cons,zH,not_or] at this; exact this.1
 have hOf:∀ g o,γ.O g=some o->(qy r e c row vl a).O γ.O none g=(qy r e c row vl a).f o:=by
  intro g o h; simp only [Ro.O,h]; simp
 have DZ:(qy r e c row vl a).f (.r r)=some (.r r):=by
  simp [Ro.f,qy,cG.2 KQ.1,cG.2 KQ.2]
 refine ⟨_,by rw [Nat.zero_add]; exact ng,?_,?_,jY,Fm,zk,he⟩
 ·exact (qy r e c row vl a).W2 cm rfl rfl rfl (by simp) (by simp) jY (fun r' cR=>by simp only [dU]; have cR:r'≠r:=cR; simp [cR])
 ·refine ⟨?_,fun e' c' ct VK de=> ?_⟩
  ·have Yk:dO r (min row.ow a.lv)= .own (.r r):=by simp [dO,acG]
   rw [Yk]
   refine ⟨⟨?_,.inr ⟨g1,cap1,_,?_,Nat.zero_le _,sY w _ _ _ _ _ hg,?_,QQ,?_,?_⟩⟩,fun g sa=> ?_⟩
   ·rw [g5 _ _ _ (by rw [mQ]; simp; omega),mQ]; simp
   ·rw [h1]; simp
   ·simpa using HM
   ·simp [g5 _ _ _ (show e*sz row.τ+c+v.cells.toList.length<=cur.toList.length by simp; omega),iX]
   ·rw [List.length_set]
    simp only [List.toList_toArray]
    rw [tZ _ _ _ _ (by simp; omega) (by simpa using Wt),ht]
   ·rw [hOf g (.r r) (oP g sa),DZ]
  ·have Sx:e'<row.xs.length:=by simpa using VK
   have r8:∀ ct u,(row.cs e')[c']? =some ct->fU X γ.O w (dR r e' c' row.ow) ct u->(e'≠e\/c'<c\/c+vl.length<=c') ->
     fU X ((qy r e c row vl a).O γ.O none) (w.setRow g1 (Soft.cQ cur.toList (e*sz row.τ+c) v.cells.toList).toArray) (dR r e' c' (min row.ow a.lv)) ct u:=by
    intro ct u de eG vK
    refine eG.re (fun g o hg hi=> ?_) (D4 XK r r e' c')
    refine ⟨(jY g (bW hg) (u7 hi)).trans hg,?_⟩
    refine (qy r e c row vl a).nes KQ.2 ho VO XK ?_ hi
    simp only [qy]
    by_cases h1:e'=e
    ·have h2:¬ (c<=c'/\c'<c+vl.length):=by omega
     simp only [h1,zV,Bool.true_and,Bool.and_eq_false_iff,decide_eq_false_iff_not]
     omega
    ·simp [h1]
   by_cases Jz:e'=e
   ·subst Jz
    rw [zk] at de
    by_cases z5:c<=c'/\c'<c+vl.length
    ·obtain ⟨j,rfl⟩:∃ j,c'=c+j:=⟨c'-c,by omega⟩
     rw [dK _ _ _ _ (by omega) (by omega)] at de
     have Vc:=(qy r e' c row vl a).Xo (M:=S.lk) la VO (w:=w) (w':=w.setRow g1 (Soft.cQ cur.toList (e'*sz row.τ+c) v.cells.toList).toArray) (γ:=γ) (nb:=none) (by simp) cm (xs:=vl)
      (fun g o hg hi=> ?_)
     ·obtain ⟨_,h2⟩:=BX hm hR VO vl _ c a hv ha (Nat.min_le_right _ _) Vc
      obtain ⟨u,hu,eG⟩:=h2 j ct de
      exact ⟨u,by rw [show e'*sz row.τ+(c+j)=e'*sz row.τ+c+j by omega,dK _ _ _ _ (by simp; omega) (by rw [mQ]; simp; omega)]; exact hu,eG⟩
     ·refine (jY g (bW hg) ?_).trans hg
      obtain ⟨x,hx,hi⟩:=hi
      have top:∀ r' row',(x= .sw r'\/∃ o n,x= .sl r' o n)->S.lk.r r'=some row'->In (dO r' row'.ow) (γ.O g)->γ.O g≠some (.r r):=by
       intro r' row' Nj cz z5 heq
       have abV:r'=r:=by
        rcases ES z5 with h | h | h | ⟨_,_,h⟩<;>rw [heq] at h<;>simp at h
        exact h.symm
       subst abV
       rcases yH ha hx Nj hr ho with h | h
       ·exact KQ.1 h
       ·exact KQ.2 h
      cases x<;>simp only [F2] at hi<;>try exact hi.elim
      all_goals obtain ⟨row',cz,z5⟩:=hi
      ·exact top _ _ (.inl rfl) cz z5
      ·exact top _ _ (.inr ⟨_,_,rfl⟩) cz z5
      ·exact u7 z5
      ·exact u7 z5
    ·have vK:c'<c\/c+vl.length<=c':=by omega
     have PK:(row.cs e')[c']? =some ct:=by
      rcases vK with h | h
      ·rwa [cT _ _ _ _ h (by omega)] at de
      ·rwa [cS _ _ _ _ (by omega) (by omega)] at de
     obtain ⟨u,hu,eG⟩:=bo.rG e' c' ct Sx PK
     have lD:c'<sz row.τ:=by have:=(zU.1 PK).1; omega
     refine ⟨u,?_,r8 ct u PK eG (.inr vK)⟩
     show (Soft.cQ (γ.cv r) (e'*sz row.τ+c) _)[e'*sz row.τ+c']? =some u
     rcases vK with h | h
     ·rw [cT _ _ _ _ (by omega) (by rw [mQ]; omega)]; exact hu
     ·rw [cS _ _ _ _ (by simp; omega) (by rw [mQ]; simp; omega)]; exact hu
   ·rw [Fm e' Jz] at de
    obtain ⟨u,hu,eG⟩:=bo.rG e' c' ct Sx de
    have lD:c'<sz row.τ:=by have:=(zU.1 de).1; rw [vy,bd] at this; exact this
    refine ⟨u,?_,r8 ct u de eG (.inl Jz)⟩
    show (Soft.cQ (γ.cv r) (e*sz row.τ+c) _)[e'*sz row.τ+c']? =some u
    rcases Nat.lt_or_gt_of_ne Jz with h | h
    ·have h3:(e'+1)*sz row.τ<=e*sz row.τ:=zP _ h
     rw [Nat.add_mul] at h3
     rw [cT _ _ _ _ (by omega) (by rw [mQ]; omega)]; exact hu
    ·have h3:(e+1)*sz row.τ<=e'*sz row.τ:=zP _ h
     rw [Nat.add_mul] at h3
     rw [cS _ _ _ _ (by simp; omega) (by rw [mQ]; simp; omega)]; exact hu
theorem Nv (mv:List (Nat×(Nat×Nat))) (k:Nat):fk (gone mv) k=if k∈keys mv then some none else none:=by
 induction mv with
 | nil=>simp [gone,fk,keys]
 | cons p mv ih =>
  obtain ⟨j,q⟩:=p
  simp only [gone,fk,ih,keys,zI]
  by_cases h1:k∈keys mv
  ·simp [h1]
  ·by_cases h2:j=k
   ·simp [h1,h2]
   ·simp [h1,h2,Ne.symm h2]
theorem K9 {sh:List (Nat×Nat)} (hn:(keys sh).Nodup) (hp:∀ r k,(r,k)∈sh->∃ row,m.r r=some row) (k:Nat) :
  fk (m.share sh) k=match lk sh k with | some n=>(m.r k).map (fun row=>some { row with ow:=n }) | none=>none:=by
 induction sh with
 | nil=>rfl
 | cons p sh ih =>
  obtain ⟨r,n⟩:=p
  simp only [keys,List.nodup_cons] at hn
  obtain ⟨row,hr⟩:=hp r n (by simp)
  have ih:=ih hn.2 (fun r k h=>hp r k (zJ _ h))
  simp only [Lk.share,hr,fk,lk]
  cases hb:Nat.beq r k with
  | true =>
   have:=aG hb; subst this
   rw [ih,cG.2 hn.1]
   simp [hr]
  | false =>
   have cR:¬ r=k:=by rintro rfl; rw [Nat.beq_refl] at hb; cases hb
   rw [ih]
   simp only [cR,if_false]
   cases lk sh k with
   | none=>rfl
   | some n=>cases m.r k<;>rfl
theorem Nu (r:Nat) (mv:List (Nat×(Nat×Nat))) (k:Nat):lk (UP r mv) k=(lk mv k).map fun p=>(r,p.1,p.2):=by
 induction mv with
 | nil=>rfl
 | cons p mv ih =>
  obtain ⟨j,e,c⟩:=p
  simp only [UP,lk]
  cases Nat.beq j k<;>simp [ih]
def U2 (m:Lk) (r:Nat) (row':Row) (a:Ix):Dl:={ Dl.z with mv:=UP r a.mv,kn:=[r],rs:=gone a.mv++(m.share a.sh++[(r,some row')]) }
theorem x6 {r:Nat} {row':Row} {a:Ix} (la:(r::(keys a.mv++keys a.sh)).Nodup) (hp:∀ r k,(r,k)∈a.sh->∃ row,m.r r=some row) (k:Nat) :
  fk (U2 m r row' a).rs k=if r=k then some (some row') else match lk a.sh k with
   | some n=>(m.r k).map (fun row=>some { row with ow:=n })
   | none=>if k∈keys a.mv then some none else none:=by
 have Vv:(keys a.sh).Nodup:=by
  simp only [List.nodup_cons,List.nodup_append] at la; exact la.2.2.1
 simp only [U2,ia,Kc,K9 Vv hp,Nv]
 by_cases h:r=k
 ·simp [h]
 ·simp only [h,if_false]
  cases hl:lk a.sh k with
  | none=>rfl
  | some n =>
   obtain ⟨row,hr⟩:=hp k n (cO hl)
   simp [hr]
theorem RA (hR:Rel X S.lk γ w) (cm:∀ g,w.heap.size<=g->γ.O g=none) (hm:Le m S.lk) {r e c:Nat} {row:Row} {vl:List Cv} {a:Ix} {y:El row.τ} {av v:Value} {t:TypeId}
  (hr:m.r r=some row) (ho:ej row.ow=true) (ha:m.bT e c vl=some a) (hlen:c+vl.length<=sz row.τ) (hy:rV row.τ (Soft.cQ (row.cs e) c a.iw)=some y)
  (xt:CG row.τ a.iw=true) (la:(r::(keys a.mv++keys a.sh)).Nodup) (hv:ca S.lk γ vl v.cells.toList) (Qw:bq S.lk γ (.pe r e c) av) (hs:vl.length=fS X.P t) (hp:0<vl.length) :
  ∃ w' γ',(Instr.storeAt t av v).run X.P w= .ok () w'/\Step X S γ w (U2 m r { row with xs:=row.xs.set e y,ow:=min row.ow a.lv } a) γ' w':=by
 obtain ⟨w',ng,tz,bo,jY,Fm,zk,he⟩:=OS hR cm hm hr ho ha hlen hy xt la hv Qw hs hp
 have fL:=hm.r r row hr
 have Jt:∀ r k,(r,k)∈a.sh->∃ row,m.r r=some row:=fun r k h=>let ⟨row,h1,_⟩:=lN ha h; ⟨row,h1⟩
 have Vv:(keys a.sh).Nodup:=by
  have:=la; simp only [List.nodup_cons,List.nodup_append] at this; exact this.2.2.1
 have KQ:r∉keys a.mv/\r∉keys a.sh:=by
  have:=la; simp only [List.nodup_cons,zH,not_or] at this; exact this.1
 have Nn:∀ k,k∈keys a.mv->lk a.sh k=none:=by
  intro k hk
  rw [cG]; intro uA
  have:=la; simp only [List.nodup_cons,List.nodup_append] at this
  exact this.2.2.2 k hk k uA rfl
 have hmn:(keys a.mv).Nodup:=by
  have:=la; simp only [List.nodup_cons,List.nodup_append] at this; exact this.2.1
 let row':Row:={ row with xs:=row.xs.set e y,ow:=min row.ow a.lv }
 have cz:(S.app (U2 m r row' a)).lk.r r=some row':=by rw [kZ,x6 la Jt]; simp
 have Fl:∀ k rk,k≠r->S.lk.r k=some rk->k∉keys a.mv->∃ rk',(S.app (U2 m r row' a)).lk.r k=some rk'/\rk'.τ=rk.τ/\rk'.xs.length=rk.xs.length/\∀ e,rk'.cs e=rk.cs e:=by
  intro k rk cR hk Fk
  rw [kZ,x6 la Jt,if_neg (Ne.symm cR)]
  cases hl:lk a.sh k with
  | none=>simp only [Fk,if_false]; exact ⟨rk,hk,rfl,rfl,fun _=>rfl⟩
  | some n =>
   obtain ⟨row2,h2⟩:=Jt k n (cO hl)
   have h3:=hm.r k row2 h2
   rw [hk] at h3; cases h3
   simp only [h2,Option.map_some]
   exact ⟨_,rfl,rfl,rfl,fun _=>rfl⟩
 have PO:∀ k,lk (U2 m r row' a).mv k=none->k∉keys a.mv:=by
  intro k h
  have h:lk (UP r a.mv) k=none:=h
  rw [Nu] at h
  rw [← cG]; cases h2:lk a.mv k with
  | none=>rfl
  | some p=>rw [h2] at h; cases h
 refine ⟨w',QC γ r e c row vl a v.cells.toList,ng,lX hR rfl tz ?_ ?_ ?_ (fun k rk h h1=>by
  rw [x6 la Jt] at h
  by_cases k8:r=k
  ·rw [if_pos k8] at h; cases h; exact absurd h1 (tV (EK ho (qv ha)).2.1)
  ·rw [if_neg k8] at h
   cases hl:lk a.sh k with
   | none=>rw [hl] at h; simp only at h; split at h<;>cases h
   | some n =>
    rw [hl] at h; simp only at h
    obtain ⟨row2,h2,h3⟩:=lN ha (cO hl)
    rw [h2] at h; simp only [Option.map_some,zA] at h; subst h
    exfalso; rcases h3 with ⟨h3,_⟩ | ⟨h3,_⟩<;>rw [h3] at h1<;>cases h1) (fun _ _ _=>rfl)⟩
 ·refine OD hR (fun k d e' c' rk h hk=> ?_) (fun k rk hk hn _=> ?_) (fun k rk rk' hk hn _ _ h=> ?_) (fun k hn _ _ Fv=>⟨fun rk rk' hk h=> ?_⟩) (fun k cs hk _=> ?_)
  ·have h:lk (UP r a.mv) k=some (d,e',c'):=h
   rw [Nu] at h
   cases hl:lk a.mv k with
   | none=>rw [hl] at h; cases h
   | some p =>
    obtain ⟨e1,c1⟩:=p
    rw [hl] at h; simp only [Option.map_some,zA,zG] at h
    obtain ⟨rfl,rfl,rfl⟩:=h
    obtain ⟨rk2,j,h1,rfl,rfl,h4,h5⟩:=A1 ha (cO hl)
    have HP:=hm.r k rk2 h1
    rw [hk] at HP; cases HP
    have Nd:=mJ ha
    have Ni:j<vl.length:=(zU.1 h4).1
    have Vt:(row.cs e1).length=sz row.τ:=bd _ _
    have mQ:(γ.cv r).length=row.xs.length*sz row.τ:=(hR.rs r row fL).top.zb.1
    have Ve:(e1+1)*sz row.τ<=row.xs.length*sz row.τ:=zP _ he
    rw [Nat.add_mul] at Ve
    obtain ⟨u,hu,hc⟩:=hv.get h4
    have hul:=hv.length
    refine ⟨row',cz,by simpa [row'] using he,?_,?_⟩
    ·show (({ row with xs:=row.xs.set e1 y,ow:=min row.ow a.lv }:Row).cs e1)[c+j]? =_
     rw [zk,dK _ _ _ _ (by omega) (by omega)]; exact h5
    ·show (dU γ.cv r (Soft.cQ (γ.cv r) (e1*sz row.τ+c) v.cells.toList) r)[e1*sz row.τ+(c+j)]? =_
     simp only [dU,if_true]
     rw [show e1*sz row.τ+(c+j)=e1*sz row.τ+c+j by omega,dK _ _ _ _ (by omega) (by rw [mQ]; omega),hu,hc.2]
  ·refine ⟨?_,rfl⟩
   by_cases k8:k=r
   ·subst k8; exact ⟨_,cz⟩
   ·obtain ⟨rk',h1,_⟩:=Fl k rk k8 hk (PO k hn); exact ⟨rk',h1⟩
  ·by_cases k8:k=r
   ·subst k8
    rw [cz] at h; cases h
    rw [fL] at hk; cases hk
    exact ⟨rfl,by simp [row']⟩
   ·obtain ⟨rk2,h1,h2,h4,_⟩:=Fl k rk k8 hk (PO k hn)
    rw [h] at h1; cases h1
    exact ⟨h2,by omega⟩
  ·have k8:k≠r:=J0.1 Fv
   obtain ⟨rk2,h1,h2,h4,h5⟩:=Fl k rk k8 hk (PO k hn)
   rw [h] at h1; cases h1
   intro e1 c1 τ ys _ hc
   exact ⟨⟨ys,by rw [h5]; exact hc,Nat.le_refl _⟩,by simp [QC,dU,k8]⟩
  ·rw [oy]; exact ⟨⟨_,by simp [U2,Dl.z,fk,hk]; rfl⟩,rfl⟩
 ·intro k rk h
  rw [x6 la Jt] at h
  by_cases k8:r=k
  ·subst k8
   rw [if_pos rfl] at h; cases h
   simpa [QC,dU] using bo
  ·rw [if_neg k8] at h
   cases hl:lk a.sh k with
   | none =>
    rw [hl] at h; simp only at h
    split at h<;>cases h
   | some n =>
    rw [hl] at h; simp only at h
    obtain ⟨row2,h2,h3⟩:=lN ha (cO hl)
    rw [h2] at h; simp only [Option.map_some,zA] at h; subst h
    have:=(qy r e c row vl a).shared (w:=w) (w':=w') (γ:=γ) la (nb:=none) (by simp) cm jY (hR.rs k row2 (hm.r k row2 h2)) (cO hl) h3
    have cR:k≠r:=Ne.symm k8
    simpa [QC,dU,cR] using this
 ·intro k rk h hk Vq
  rw [x6 la Jt] at h
  rcases Vq with h1 | h1 | h1
  ·have h1:k=r:=h1
   rw [if_pos h1.symm] at h; cases h
  ·have h1:k∈keys a.mv:=h1
   by_cases k8:r=k
   ·rw [if_pos k8] at h; cases h
   ·rw [if_neg k8,Nn k h1] at h; simp [h1] at h
  ·have h1:k∈keys a.sh:=h1
   by_cases k8:r=k
   ·rw [if_pos k8] at h; cases h
   ·rw [if_neg k8] at h
    cases hl:lk a.sh k with
    | none=>exact absurd h1 (cG.1 hl)
    | some n =>
     obtain ⟨row2,h2⟩:=Jt k n (cO hl)
     rw [hl] at h; simp [h2] at h
theorem GA {τ:Ty} (x y:El τ) {c:Nat} {σ:Ty} {ys:List (El σ)} (h:(cells τ x)[c]? =some (.l σ ys)):∃ ys':List (El σ),(cells τ y)[c]? =some (.l σ ys'):=by
 have key:∀ (l l':List Ct),l.length=l'.length->(∀ (i:Nat) (a b:Ct),l[i]? =some a->l'[i]? =some b->∀ (σ:Ty) (ys:List (El σ)),a=Ct.l σ ys->∃ zs:List (El σ),b=Ct.l σ zs) ->
   l[c]? =some (.l σ ys)->∃ ys':List (El σ),l'[c]? =some (.l σ ys'):=by
  intro l l' hl hk hc
  have fM:c<l'.length:=by have:=(zU.1 hc).1; omega
  have hb:l'[c]? =some l'[c]:=List.getElem?_eq_getElem fM
  obtain ⟨zs,hz⟩:=hk c _ _ hc hb σ ys rfl
  exact ⟨zs,by rw [hb,hz]⟩
 refine key _ _ (by rw [bd,bd]) ?_ h
 intro i a b ha hb σ ys e
 subst e
 cases τ<;>simp only [cells] at ha hb <;>
  (repeat (rcases i with _ | i<;>first
   | (simp only [List.getElem?_cons_zero,zA,reduceCtorEq] at ha; done)
   | (simp only [List.getElem?_cons_zero,zA] at ha hb; cases ha; subst hb; exact ⟨_,rfl⟩)
   | (simp only [List.getElem?_cons_succ,List.getElem?_nil,reduceCtorEq] at ha; done)
   | simp only [List.getElem?_cons_succ] at ha hb))
theorem yC:∀ {vl:List Cv} {e c:Nat} {a:Ix},jO vl=true->m.bT e c vl=some a->a.mv=[]/\a.sh=[]/\a.lv=5/\∀ (j:Nat) (σ:Ty) (ys:List (El σ)),a.iw[j]? ≠some (.l σ ys)
 | [],e,c,a,_,h=>by simp only [Lk.bT,zA] at h; subst h; simp
 | x::vl,e,c,a,hf,h=>by
  have hx:∃ ct,m.eH x=some ⟨ct,none,none,5⟩/\(∀ (σ:Ty) (ys:List (El σ)),ct≠ .l σ ys)/\jO vl=true:=by
   cases x<;>simp only [jO] at hf<;>first | (cases hf; done) | exact ⟨_,rfl,by simp,hf⟩
  obtain ⟨ct,h1,de,hf⟩:=hx
  simp only [Lk.bT,h1] at h
  cases h2:m.bT e (c+1) vl with
  | none=>simp [h2] at h
  | some a2 =>
   simp only [h2,zA] at h; subst h
   obtain ⟨i1,i2,i3,i4⟩:=yC hf h2
   refine ⟨i1,i2,by simp [i3],fun j σ ys=> ?_⟩
   cases j with
   | zero=>simp; exact de σ ys
   | succ j=>simpa using i4 j σ ys
def Xn (r:Nat) (row':Row):Dl:={ Dl.z with rs:=[(r,some row')] }
theorem Mb (S:St) (r:Nat) (row':Row) (k:Nat):(S.app (Xn r row')).lk.r k=if r=k then some row' else S.lk.r k:=by
 rw [kZ]
 show (match (if r=k then some (some row') else none) with | some r=>r | none=>_)=_
 by_cases h:r=k<;>simp [h]
theorem WU (S:St) (r:Nat) (row':Row) (k:Nat):(S.app (Xn r row')).lk.v k=(S.lk.v k).map (List.map (Xn r row').map):=by rw [oy]; rfl
theorem RN (hR:Rel X S.lk γ w) (cm:∀ g,w.heap.size<=g->γ.O g=none) (hm:Le m S.lk) {r e c:Nat} {row:Row} {vl:List Cv} {a:Ix} {y:El row.τ} {av v:Value} {t:TypeId}
  (hr:m.r r=some row) (ho:ej row.ow=true) (zX:jO vl=true) (ha:m.bT e c vl=some a) (hlen:c+vl.length<=sz row.τ) (hy:rV row.τ (Soft.cQ (row.cs e) c a.iw)=some y)
  (xt:CG row.τ a.iw=true) (hv:ca S.lk γ vl v.cells.toList) (Qw:bq S.lk γ (.pe r e c) av) (hs:vl.length=fS X.P t) (hp:0<vl.length) :
  ∃ w' γ',(Instr.storeAt t av v).run X.P w= .ok () w'/\Step X S γ w (Xn r { row with xs:=row.xs.set e y }) γ' w':=by
 obtain ⟨fmv,fsh,flv,fct⟩:=yC zX ha
 have la:(qy r e c row vl a).apart:=by simp [Ro.apart,qy,fmv,fsh,keys]
 obtain ⟨w',ng,tz,bo,jY,Fm,zk,he⟩:=OS hR cm hm hr ho ha hlen hy xt la hv Qw hs hp
 have fL:=hm.r r row hr
 have ab2:min row.ow a.lv=row.ow:=by rw [flv]; rcases oC ho with h | h | h<;>rw [h]<;>rfl
 rw [ab2] at bo Fm zk
 have hR':∀ k,(qy r e c row vl a).R k↔k=r:=by intro k; simp [Ro.R,qy,fmv,fsh,keys]
 have hul:=hv.length
 have Nd:=mJ ha
 have Vt:(row.cs e).length=sz row.τ:=bd _ _
 have mQ:(γ.cv r).length=row.xs.length*sz row.τ:=(hR.rs r row fL).top.zb.1
 have Ve:(e+1)*sz row.τ<=row.xs.length*sz row.τ:=zP _ he
 rw [Nat.add_mul] at Ve
 refine ⟨w',QC γ r e c row vl a v.cells.toList,ng,lX hR rfl tz ?_ ?_ ?_ (Ji (tV ho)) (fun _ _ _=>rfl)⟩
 ·refine mq hR rfl (fun k rk hk _=>⟨?_,rfl⟩) (fun k rk rk' hk _ _ h=> ?_) (fun k _ _ _=>⟨fun rk rk' hk h=> ?_⟩) (fun k cs hk _=>⟨⟨_,by rw [WU,hk]; rfl⟩,rfl⟩)
  ·rw [Mb]; by_cases h:r=k
   ·exact ⟨_,if_pos h⟩
   ·exact ⟨rk,by rw [if_neg h]; exact hk⟩
  ·rw [Mb] at h
   by_cases r9:r=k
   ·subst r9; rw [if_pos rfl] at h; cases h
    rw [fL] at hk; cases hk
    exact ⟨rfl,by simp⟩
   ·rw [if_neg r9,hk] at h; cases h; exact ⟨rfl,Nat.le_refl _⟩
  ·rw [Mb] at h
   by_cases r9:r=k
   ·subst r9; rw [if_pos rfl] at h; cases h
    rw [fL] at hk; cases hk
    intro e1 c1 τ ys he1 hc
    have bQ:c1<sz row.τ:=by have:=(zU.1 hc).1; rw [vy,bd] at this; exact this
    have SO:(QC γ r e c row vl a v.cells.toList).cv r=Soft.cQ (γ.cv r) (e*sz row.τ+c) v.cells.toList:=by simp [QC,dU]
    rw [SO]
    by_cases Jz:e1=e
    ·subst Jz
     have vK:c1<c\/c+vl.length<=c1:=by
      rcases Nat.lt_or_ge c1 c with h | h
      ·exact .inl h
      ·rcases Nat.lt_or_ge c1 (c+vl.length) with h2 | h2
       ·exfalso
        obtain ⟨j,rfl⟩:∃ j,c1=c+j:=⟨c1-c,by omega⟩
        obtain ⟨ys',MI⟩:=GA _ y hc
        have h3:=zk
        simp only [Row.cs] at h3
        rw [show (row.xs.set e1 y).getD e1 (ch row.τ)=y by simp [List.getD,he]] at h3
        rw [h3,dK _ _ _ _ (by omega) (by rw [bd]; omega)] at MI
        exact fct j τ ys' MI
       ·exact .inr h2
     rw [zk]
     refine ⟨⟨ys,?_,Nat.le_refl _⟩,?_⟩
     ·rcases vK with h | h
      ·rw [cT _ _ _ _ h (by omega)]; exact hc
      ·rw [cS _ _ _ _ (by omega) (by omega)]; exact hc
     ·rcases vK with h | h
      ·rw [cT _ _ _ _ (by omega) (by rw [mQ]; omega)]
      ·rw [cS _ _ _ _ (by omega) (by rw [mQ]; omega)]
    ·rw [Fm e1 Jz]
     refine ⟨⟨ys,hc,Nat.le_refl _⟩,?_⟩
     rcases Nat.lt_or_gt_of_ne Jz with h | h
     ·have h3:(e1+1)*sz row.τ<=e*sz row.τ:=zP _ h
      rw [Nat.add_mul] at h3
      rw [cT _ _ _ _ (by omega) (by rw [mQ]; omega)]
     ·have h3:(e+1)*sz row.τ<=e1*sz row.τ:=zP _ h
      rw [Nat.add_mul] at h3
      rw [cS _ _ _ _ (by omega) (by rw [mQ]; omega)]
   ·rw [if_neg r9,hk] at h; cases h
    intro e1 c1 τ ys _ hc
    exact ⟨⟨ys,hc,Nat.le_refl _⟩,by simp [QC,dU,Ne.symm r9]⟩
 ·intro k rk h
  have h:(if r=k then some (some _) else none)=some (some rk):=h
  by_cases hk:r=k
  ·subst hk; rw [if_pos rfl] at h; cases h
   simpa [QC,dU] using bo
  ·rw [if_neg hk] at h; cases h
 ·intro k rk h _ Vq
  have h:(if r=k then some (some _) else none)=none:=h
  rw [(hR' k).1 Vq] at h
  simp at h
theorem oe {τ:Ty} (ys:List (El τ)) {k d:Nat} (hk:k<ys.length) (hd:d<sz τ):(fW τ ys)[k*sz τ+d]? =((cells τ (ys.getD k (ch τ)))[d]?).map gu :=
 fm τ ys k d hk hd
theorem II {τ:Ty} (ys:List (El τ)) {k d:Nat} {y:El τ} {iw:List Ct} (hk:k<ys.length) (hd:d+iw.length<=sz τ) (hy:cells τ y=Soft.cQ (cells τ (ys.getD k (ch τ))) d iw) :
  fW τ (ys.set k y)=Soft.cQ (fW τ ys) (k*sz τ+d) (iw.map gu):=by
 have hz:=oz τ
 have hkz:(k+1)*sz τ<=ys.length*sz τ:=zP _ hk
 rw [Nat.add_mul] at hkz
 have zX:=mj τ ys
 have ae8:(fW τ (ys.set k y)).length=ys.length*sz τ:=by rw [mj]; simp
 have Nd:(cells τ (ys.getD k (ch τ))).length=sz τ:=bd _ _
 apply List.ext_getElem?
 intro i
 by_cases hi:i<ys.length*sz τ
 ·have he:i/sz τ<ys.length:=Nat.div_lt_of_lt_mul (by rwa [Nat.mul_comm])
  have hc:i % sz τ<sz τ:=Nat.mod_lt _ hz
  have VB:i/sz τ*sz τ+i % sz τ=i:=by rw [Nat.mul_comm]; exact Nat.div_add_mod i (sz τ)
  revert he hc VB
  generalize i/sz τ=e
  generalize i % sz τ=c
  intro he hc VB
  subst VB
  rw [oe _ (by simpa using he) hc]
  by_cases hek:e=k
  ·subst hek
   rw [show (ys.set e y).getD e (ch τ)=y by simp [List.getD,he],hy]
   by_cases h1:c<d
   ·rw [cT _ _ _ _ h1 (by omega),cT _ _ _ _ (by omega) (by rw [zX]; omega),oe _ he hc]
   ·by_cases h2:c<d+iw.length
    ·obtain ⟨j,rfl⟩:∃ j,c=d+j:=⟨c-d,by omega⟩
     rw [dK _ _ _ _ (by omega) (by omega),show e*sz τ+(d+j)=e*sz τ+d+j by omega,dK _ _ _ _ (by simp; omega) (by rw [zX]; simp; omega),List.getElem?_map]
    ·rw [cS _ _ _ _ (by omega) (by omega),cS _ _ _ _ (by simp; omega) (by rw [zX]; simp; omega),oe _ he hc]
  ·rw [show (ys.set k y).getD e (ch τ)=ys.getD e (ch τ) by simp [List.getD,List.getElem?_set,Ne.symm hek]]
   rcases Nat.lt_or_gt_of_ne hek with h | h
   ·have h3:(e+1)*sz τ<=k*sz τ:=zP _ h
    rw [Nat.add_mul] at h3
    rw [cT _ _ _ _ (by omega) (by rw [zX]; omega),oe _ he hc]
   ·have h3:(k+1)*sz τ<=e*sz τ:=zP _ h
    rw [Nat.add_mul] at h3
    rw [cS _ _ _ _ (by simp; omega) (by rw [zX]; simp; omega),oe _ he hc]
 ·rw [List.getElem?_eq_none (by omega),List.getElem?_eq_none]
  rw [g5 _ _ _ (by rw [zX]; simp; omega)]; omega
theorem FK (m:Lk):∀ {vl:List Cv} {us:List Value} {iw:List Ct},jO vl=true->ca M γ vl us->m.iw vl=some iw->us=iw.map gu/\iw.length=vl.length
 | [],us,iw,_,hr,h=>by cases hr; simp only [Lk.iw,zA] at h; subst h; simp
 | x::vl,us,iw,hf,hr,h=>by
  cases hr with
  | cons hx hl =>
   rename_i v us
   have:∃ ct,m.ct x=some ct/\v=gu ct/\jO vl=true:=by
    cases x<;>simp only [jO] at hf<;>first | (cases hf; done) | exact ⟨_,rfl,hx,hf⟩
   obtain ⟨ct,h1,rfl,hf⟩:=this
   simp only [Lk.iw,h1] at h
   cases h2:m.iw vl with
   | none=>simp [h2] at h
   | some c2 =>
    simp only [h2,zA] at h; subst h
    obtain ⟨i1,i2⟩:=FK m hf hl h2
    simp [i1,i2]
theorem QS (hR:Rel X S.lk γ w) (cm:∀ g,w.heap.size<=g->γ.O g=none) (hm:Le m S.lk) {r e c k d:Nat} {row:Row} {vl:List Cv} {iw:List Ct} {τ:Ty} {ys:List (El τ)} {y:El τ} {z:El row.τ} {av v:Value} {t:TypeId}
  (hr:m.r r=some row) (ho:row.ow=5) (zX:jO vl=true) (MJ:m.iw vl=some iw) (hc:(row.cs e)[c]? =some (.l τ ys)) (hd:d+vl.length<=sz τ)
  (hy:rV τ (Soft.cQ (cells τ (ys.getD k (ch τ))) d iw)=some y) (hz:rV row.τ (Soft.cQ (row.cs e) c [.l τ (ys.set k y)])=some z) (xt:CG τ iw=true)
  (hv:ca S.lk γ vl v.cells.toList) (Qw:bq S.lk γ (.pn r e c k d) av) (hs:vl.length=fS X.P t) (hp:0<vl.length) :
  ∃ w',(Instr.storeAt t av v).run X.P w= .ok () w'/\Step X S γ w (Xn r { row with xs:=row.xs.set e z }) γ w':=by
 have fL:=hm.r r row hr
 obtain ⟨row',τ',ys',u,cz,he,lD,hu,hk,g,o,n',cap,hb,rfl⟩:=Qw
 rw [fL] at cz; cases cz
 rw [hc] at lD; cases lD
 have bo:=hR.rs r row fL
 obtain ⟨u',oU,YP,pU⟩:=bo.rG e c _ he hc
 rw [hu] at oU; cases oU
 have Zg:∀ e c,dR r e c row.ow= .own (.n r e c):=by intro e c; rw [ho]; rfl
 have ht5:dO r row.ow= .own (.r r):=by rw [ho]; rfl
 rw [Zg] at pU
 obtain ⟨gM,oP⟩:=pU
 obtain ⟨SQ,T6⟩:=FK m zX hv MJ
 rcases gM.2 with ⟨h1,_⟩ | ⟨g1,cap1,cur,h1,_,hg,HM,QQ,iX,ht⟩
 ·rw [h1] at hb; cases hb
 have M3:g1=g/\0=o:=by
  rw [h1] at hb; injection hb with h _ _; injection h with h; injection h with h2 h3 _; exact ⟨h2,h3⟩
 obtain ⟨rfl,rfl⟩:=M3
 have Qc:γ.O g1=some (.n r e c):=oP g1 (by rw [h1]; rfl)
 have MU:=hv.length
 have hkz:(k+1)*sz τ<=ys.length*sz τ:=zP _ hk
 rw [Nat.add_mul] at hkz
 have Wt:ys.length*sz τ<=cur.size:=by rw [iX]; exact zP _ HM
 have ng:=yj (X:=X) (t:=t) (v:=v) (o:=0+(k*sz τ+d)) hg (by simp at MU; omega) (by simp at MU; omega) (by simp at MU; omega) (hv.one hR)
 have Wj:cells τ y=Soft.cQ (cells τ (ys.getD k (ch τ))) d iw:=ql hy (fun MN=>by
  have gZ:τ= .byte:=by revert MN; cases τ<;>simp [Ty.isByte]
  have h2:sz τ=1:=by rw [gZ]; rfl
  have h3:(cells τ (ys.getD k (ch τ))).length=1:=by rw [bd,h2]
  have h5:d=0:=by omega
  subst h5
  have h6:vl.length=1:=by omega
  have:Soft.cQ (cells τ (ys.getD k (ch τ))) 0 iw=iw:=by
   simp only [Soft.cQ,T6,h6,List.take_zero,List.nil_append,Nat.zero_add]
   rw [List.drop_of_length_le (by omega),List.append_nil]
  rw [this]; exact xt)
 have abN:cells row.τ z=Soft.cQ (row.cs e) c [.l τ (ys.set k y)]:=ql hz (fun MN=>by
  exfalso
  have gZ:row.τ.deep=false:=by revert MN; cases row.τ<;>simp [Ty.isByte,Ty.deep]
  exact absurd rfl (oM gZ _ _ (List.mem_of_getElem? hc) τ ys))
 have Vt:(row.cs e).length=sz row.τ:=bd _ _
 have CQ:c<(row.cs e).length:=(zU.1 hc).1
 let row':Row:={ row with xs:=row.xs.set e z }
 have zk:row'.cs e=Soft.cQ (row.cs e) c [.l τ (ys.set k y)]:=by
  show cells row.τ ((row.xs.set e z).getD e (ch row.τ))=_
  rw [show (row.xs.set e z).getD e (ch row.τ)=z by simp [List.getD,he]]
  exact abN
 have Fm:∀ e':Nat,e'≠e->row'.cs e'=row.cs e':=by
  intro e' cR
  show cells row.τ ((row.xs.set e z).getD e' (ch row.τ))=cells row.τ (row.xs.getD e' (ch row.τ))
  rw [show (row.xs.set e z).getD e' (ch row.τ)=row.xs.getD e' (ch row.τ) by simp [List.getD,List.getElem?_set,Ne.symm cR]]
 have adm:∀ e' c' ct,(row'.cs e')[c']? =some ct->(e'=e/\c'=c/\ct= .l τ (ys.set k y))\/(¬ (e'=e/\c'=c)/\(row.cs e')[c']? =some ct):=by
  intro e' c' ct h
  by_cases Jz:e'=e
  ·subst Jz
   rw [zk] at h
   rcases Nat.lt_trichotomy c' c with h1 | h1 | h1
   ·rw [cT _ _ _ _ h1 (by omega)] at h; exact .inr ⟨by omega,h⟩
   ·subst h1
    have:=dK (row.cs e') [Ct.l τ (ys.set k y)] c' 0 (by simp) (by simp; omega)
    rw [Nat.add_zero] at this
    rw [this] at h; simp at h; exact .inl ⟨rfl,rfl,h.symm⟩
   ·rw [cS _ _ _ _ (by simp; omega) (by simp; omega)] at h; exact .inr ⟨by omega,h⟩
  ·rw [Fm e' Jz] at h; exact .inr ⟨fun h=>Jz h.1,h⟩
 have jY:∀ g,g≠g1->(w.setRow g1 (Soft.cQ cur.toList (0+(k*sz τ+d)) v.cells.toList).toArray).heap[g]? =w.heap[g]? :=fun g h=>l8 w _ _ g h
 refine ⟨_,ng,?_⟩
 have tz:Ku (·=r) γ w γ (w.setRow g1 (Soft.cQ cur.toList (0+(k*sz τ+d)) v.cells.toList).toArray) :=
  ⟨rfl,rfl,rfl,by simp,fun g sa cR=>⟨jY g (fun h=>by have:=(cR r rfl).2 e c; rw [h,Qc] at this; exact this rfl),rfl⟩,fun g sa=>cm g (by simpa using sa),rfl,fun _ _=>⟨rfl,rfl⟩⟩
 have SC:cP X γ.O (w.setRow g1 (Soft.cQ cur.toList (0+(k*sz τ+d)) v.cells.toList).toArray) r row' (γ.rv r) (γ.cv r):=by
  have Co:=bo.top
  refine ⟨?_,fun e' c' ct VK de=> ?_⟩
  ·show Sl X γ.O _ (dO r row.ow) row.τ _ (row.xs.set e z).length _
   rw [List.length_set]
   refine Co.re (fun g o sa hi=> ?_) id
   rw [ht5] at hi
   have hi:γ.O g=some (.r r):=hi
   exact ⟨(jY g (fun h=>by rw [h,Qc] at hi; cases hi)).trans sa,by rw [ht5]; exact hi⟩
  ·have Sx:e'<row.xs.length:=by simpa [row'] using VK
   show ∃ u,(γ.cv r)[e'*sz row.τ+c']? =some u/\fU X γ.O _ (dR r e' c' row.ow) ct u
   rcases adm e' c' ct de with ⟨rfl,rfl,rfl⟩ | ⟨cR,PK⟩
   ·refine ⟨u,hu,YP,?_⟩
    rw [Zg]
    refine ⟨⟨by rw [mj],.inr ⟨g1,cap1,_,by rw [h1]; simp,Nat.zero_le _,sY w _ _ _ _ _ hg,by simpa using HM,QQ,?_,?_⟩⟩,oP⟩
    ·rw [List.size_toArray,g5 _ _ _ (by simp only [Array.length_toList] at MU ⊢; omega),Array.length_toList,iX]
    ·rw [List.length_set,List.toList_toArray,tZ _ _ _ _ (by omega) (by simpa using Wt),ht,II ys hk (by omega) Wj,Nat.zero_add,SQ]
   ·obtain ⟨u2,hu2,eG⟩:=bo.rG e' c' ct Sx PK
    refine ⟨u2,hu2,eG.re (fun g o sa hi=> ?_) id⟩
    rw [Zg] at hi
    have hi:γ.O g=some (.n r e' c'):=hi
    exact ⟨(jY g (fun h=>by rw [h,Qc] at hi; simp at hi; exact cR ⟨hi.1.symm,hi.2.symm⟩)).trans sa,by rw [Zg]; exact hi⟩
 refine lX hR rfl tz ?_ ?_ ?_ (Ji (by show row.ow≠1; rw [ho]; decide)) (fun _ _ _=>rfl)
 ·refine mq hR rfl (fun j rk hj _=>⟨?_,rfl⟩) (fun j rk rk' hj _ _ h=> ?_) (fun j _ _ _=>⟨fun rk rk' hj h=> ?_⟩) (fun j cs hj _=>⟨⟨_,by rw [WU,hj]; rfl⟩,rfl⟩)
  ·rw [Mb]; by_cases h:r=j
   ·exact ⟨_,if_pos h⟩
   ·exact ⟨rk,by rw [if_neg h]; exact hj⟩
  ·rw [Mb] at h
   by_cases r9:r=j
   ·subst r9; rw [if_pos rfl] at h; cases h
    rw [fL] at hj; cases hj
    exact ⟨rfl,by simp⟩
   ·rw [if_neg r9,hj] at h; cases h; exact ⟨rfl,Nat.le_refl _⟩
  ·rw [Mb] at h
   by_cases r9:r=j
   ·subst r9; rw [if_pos rfl] at h; cases h
    rw [fL] at hj; cases hj
    intro e1 c1 σ zs he1 bQ
    refine ⟨?_,rfl⟩
    by_cases Jp:e1=e/\c1=c
    ·obtain ⟨rfl,rfl⟩:=Jp
     rw [hc] at bQ; cases bQ
     refine ⟨ys.set k y,?_,by simp⟩
     show (row'.cs e1)[c1]? =_
     rw [zk]
     have:=dK (row.cs e1) [Ct.l τ (ys.set k y)] c1 0 (by simp) (by simp; omega)
     rw [Nat.add_zero] at this
     rw [this]; rfl
    ·refine ⟨zs,?_,Nat.le_refl _⟩
     show (row'.cs e1)[c1]? =_
     by_cases Jz:e1=e
     ·subst Jz
      rw [zk]
      rcases Nat.lt_trichotomy c1 c with h1 | h1 | h1
      ·rw [cT _ _ _ _ h1 (by omega)]; exact bQ
      ·exact absurd ⟨rfl,h1⟩ Jp
      ·rw [cS _ _ _ _ (by simp; omega) (by simp; omega)]; exact bQ
     ·rw [Fm e1 Jz]; exact bQ
   ·rw [if_neg r9,hj] at h; cases h
    intro e1 c1 σ zs _ bQ
    exact ⟨⟨zs,bQ,Nat.le_refl _⟩,rfl⟩
 ·intro j rk h
  have h:(if r=j then some (some row') else none)=some (some rk):=h
  by_cases hj:r=j
  ·subst hj; rw [if_pos rfl] at h; cases h; exact SC
  ·rw [if_neg hj] at h; cases h
 ·intro j rk h _ hj
  have h:(if r=j then some (some row') else none)=none:=h
  rw [if_pos hj.symm] at h; cases h
def pj {τ:Ty} (xs:List (El τ)) (off len:Nat):List (El τ):=xs.take off++(List.replicate len (ch τ)++xs.drop (off+len))
theorem u4 {τ:Ty} (xs:List (El τ)) {off len:Nat} (h:off+len<=xs.length):(pj xs off len).length=xs.length:=by simp [pj]; omega
theorem NM {τ:Ty} (xs:List (El τ)) {off len:Nat} (h:off+len<=xs.length) (e:Nat) :
  (pj xs off len).getD e (ch τ)=if off<=e/\e<off+len then ch τ else xs.getD e (ch τ):=by
 simp only [pj,List.getD,List.getElem?_append,List.length_take,List.length_replicate,List.getElem?_take,List.getElem?_replicate,List.getElem?_drop]
 have h1:min off xs.length=off:=by omega
 rw [h1]
 by_cases h2:e<off
 ·simp [h2,show ¬ (off<=e/\e<off+len) by omega]
 ·by_cases h3:e<off+len
  ·simp [h2,show e-off<len by omega,show off<=e/\e<off+len by omega]
  ·simp [h2,show ¬ e-off<len by omega,show ¬ (off<=e/\e<off+len) by omega,show off+len+(e-off-len)=e by omega]
theorem wB (z:Array Value) (n:Nat):Builtin.zeroCells z n=madeCells z (n*z.size):=rfl
def S9 (r:Nat) (row':Row):Dl:={ Dl.z with kn:=[r],rs:=[(r,some row')] }
theorem Uy (S:St) (r:Nat) (row':Row) (k:Nat):(S.app (S9 r row')).lk.r k=if r=k then some row' else S.lk.r k:=by
 rw [kZ]
 show (match (if r=k then some (some row') else none) with | some r=>r | none=>_)=_
 by_cases h:r=k<;>simp [h]
theorem aaT (S:St) (r:Nat) (row':Row) (k:Nat):(S.app (S9 r row')).lk.v k=(S.lk.v k).map (List.map (S9 r row').map):=by rw [oy]; rfl
theorem wE (hR:Rel X S.lk γ w) {r:Nat} {row row':Row} (hr:S.lk.r r=some row) (hτ:row'.τ=row.τ) (hl:row.xs.length<=row'.xs.length) (uX:row'.ow≠1) {cv':List Value} {O':OM}
  (tz:Ku (·=r) γ w { γ with O:=O',cv:=dU γ.cv r cv' } w') (bo:cP X O' w' r row' (γ.rv r) cv'):Step X S γ w (S9 r row') { γ with O:=O',cv:=dU γ.cv r cv' } w':=by
 refine lX hR rfl tz ?_ ?_ ?_ (Ji uX) (fun _ _ _=>rfl)
 ·refine mq hR rfl (fun j rk hj _=>⟨?_,rfl⟩) (fun j rk rk' hj _ _ h=> ?_) (fun j _ _ KU=>⟨fun rk rk' hj h=> ?_⟩) (fun j cs hj _=>⟨⟨_,by rw [aaT,hj]; rfl⟩,rfl⟩)
  ·rw [Uy]; by_cases h:r=j
   ·exact ⟨_,if_pos h⟩
   ·exact ⟨rk,by rw [if_neg h]; exact hj⟩
  ·rw [Uy] at h
   by_cases r9:r=j
   ·subst r9; rw [if_pos rfl] at h; cases h
    rw [hr] at hj; cases hj
    exact ⟨hτ,hl⟩
   ·rw [if_neg r9,hj] at h; cases h; exact ⟨rfl,Nat.le_refl _⟩
  ·have r9:¬ r=j:=Ne.symm (J0.1 KU)
   rw [Uy,if_neg r9,hj] at h; cases h
   intro e1 c1 σ zs _ bQ
   exact ⟨⟨zs,bQ,Nat.le_refl _⟩,by simp [dU,Ne.symm r9]⟩
 ·intro j rk h
  have h:(if r=j then some (some row') else none)=some (some rk):=h
  by_cases hj:r=j
  ·subst hj; rw [if_pos rfl] at h; cases h; simpa [dU] using bo
  ·rw [if_neg hj] at h; cases h
 ·intro j rk h _ hj
  have h:(if r=j then some (some row') else none)=none:=h
  rw [if_pos hj.symm] at h; cases h
theorem Lj {P:Program} {t e:TypeId} {i:TypeInfo} {z:Value} (hu:P.underlying t=some (.slice e)) (hi:P.info? e=some i) (hz:i.zero=some z) {g o n cap:Nat} {cur:Array Value} {e':TypeId}
  (hg:w.heap[g]? =some (.cells cur e' (0,0))) (hle:o+n*z.cells.size<=cur.size) (h1:∀ u∈(madeCells z.cells (n*z.cells.size)).toList,u.oneCell'=true) (hn:0<n) (ty:TypeId) :
  (Builtin.clear_ #[t] ty #[.slice (some ⟨g,o,none⟩) n cap]).run P w= .ok (.tuple #[]) (w.setRow g (Soft.cQ cur.toList o (madeCells z.cells (n*z.cells.size)).toList).toArray):=by
 have pS:=run_storeCells_at (P:=P) g o e' (madeCells z.cells (n*z.cells.size)).toList 0 cur w hg (by simp [size_madeCells]; omega) h1
 rw [Nat.add_zero] at pS
 cases n with
 | zero=>omega
 | succ n =>
  simp only [Builtin.clear_,Sem.run_bind,run_underlying hu,Result.andThen_ok,zeroValue,F8 hi,hz,Sem.run_pure,wB,pS]
  simp [Soft.cQ,run_underlying hu,zeroValue,F8 hi,hz,wB,pS]
theorem OW {τ:Ty}:∀ u∈(cells τ (ch τ)).map gu,u.oneCell'=true:=by
 intro u hu
 obtain ⟨ct,_,rfl⟩:=List.mem_map.1 hu
 cases ct<;>rfl
theorem HX (hX:iy X) (hR:Rel X S.lk γ w) (cm:∀ g,w.heap.size<=g->γ.O g=none) (hm:Le m S.lk) {t:TypeId} {r off len:Nat} {xv:Value} {v:AV} {δ:Dl} (hx:bq S.lk γ (.sl r off len) xv)
  (h:X.sN m t (.c (.sl r off len))= .w0 v δ) (ty:TypeId) :
  v=u8/\∃ w' γ',(Builtin.clear_ #[t] ty #[xv]).run X.P w= .ok (.tuple #[]) w'/\Step X S γ w δ γ' w':=by
 simp only [Ctx.sN] at h
 cases ht:X.lI t with
 | none=>simp [ht] at h
 | some τ =>
  cases hr:m.r r with
  | none=>simp [ht,hr] at h
  | some row =>
   simp only [ht,hr] at h
   have fL:=hm.r r row hr
   cases h1:ej row.ow&&Ln row.τ τ with
   | false=>simp [h1] at h
   | true =>
    cases h2:row.τ.deep&&Nat.beq row.ow 5 with
    | true=>simp [h1,h2] at h
    | false =>
     simp only [h1,h2,Out.w0.injEq] at h
     obtain ⟨rfl,rfl⟩:=h
     simp only [zB] at h1
     obtain ⟨ho,hτ⟩:=h1
     have hτ:=AZ hτ
     subst hτ
     refine ⟨rfl,?_⟩
     obtain ⟨hu,zY⟩:=nR ht
     obtain ⟨i,z,hi,hz,hs,hb,hc,JB⟩:=s8 hX ht
     obtain ⟨row',cz,hle,rZ⟩:=hx
     rw [fL] at cz; cases cz
     have bo:=hR.rs r row fL
     have Cb:dO r row.ow= .own (.r r):=by simp [dO,ho]
     have zX:row.ow=5->row.τ.deep=false:=by
      intro h5; rw [h5] at h2; cases hd:row.τ.deep with
      | false=>rfl
      | true=>rw [hd] at h2; cases h2
     show ∃ w' γ',_/\Step X S γ w (S9 r { row with xs:=pj row.xs off len }) γ' w'
     have same:∀ (cv':List Value) (O':OM) (w':World),Ku (·=r) γ w { γ with O:=O',cv:=dU γ.cv r cv' } w'->cP X O' w' r { row with xs:=pj row.xs off len } (γ.rv r) cv' ->
       Step X S γ w (S9 r { row with xs:=pj row.xs off len }) { γ with O:=O',cv:=dU γ.cv r cv' } w':=fun cv' O' w' tz rE =>
      wE (row':={ row with xs:=pj row.xs off len }) hR fL rfl (by show row.xs.length<=(pj row.xs off len).length; rw [u4 _ hle]; exact Nat.le_refl _) (tV ho) tz rE
     by_cases hlen:len=0
     ·subst hlen
      have acS:pj row.xs off 0=row.xs:=by simp [pj]
      refine ⟨w,_,?_,same (γ.cv r) γ.O w ⟨rfl,rfl,rfl,Nat.le_refl _,fun _ _ _=>⟨rfl,rfl⟩,cm,rfl,fun j hj=>by simp [dU,hj]⟩ (by rw [acS]; exact bo)⟩
      rcases rZ with ⟨_,rfl,_⟩ | ⟨g,o,n',cap,o',cap',_,rfl,_⟩
      ·simp [Builtin.clear_,run_underlying hu]
      ·simp [Builtin.clear_,run_underlying hu]
     ·rcases rZ with ⟨_,_,h0⟩ | ⟨g,o,n',cap,o',cap',MH,rfl,_,_,_,h0⟩
      ·exact absurd h0 hlen
      have MO:o'=o+off*sz row.τ:=h0.resolve_left hlen
      have Co:=bo.top
      rw [Cb] at Co
      obtain ⟨gM,oP⟩:=Co
      rcases gM.2 with ⟨h3,_⟩ | ⟨g1,cap1,cur,h3,_,hg,HM,QQ,iX,SK⟩
      ·rw [h3] at MH; cases MH
      have M3:g1=g/\0=o:=by
       rw [h3] at MH; injection MH with h _ _; injection h with h; injection h with h2 h3 _; exact ⟨h2,h3⟩
      obtain ⟨rfl,rfl⟩:=M3
      subst MO
      have Wt:row.xs.length*sz row.τ<=cur.size:=by rw [iX]; exact zP _ HM
      have hlz:(off+len)*sz row.τ<=row.xs.length*sz row.τ:=zP _ hle
      rw [Nat.add_mul] at hlz
      have T0:∀ e c,e<len->c<sz row.τ->(madeCells z.cells (len*z.cells.size)).toList[e*sz row.τ+c]? =((cells row.τ (ch row.τ))[c]?).map gu:=by
       intro e c he lD
       rw [JB,Gk JB (oz _) he lD,hc,List.getElem?_map]
      have gZ:∀ u∈(madeCells z.cells (len*z.cells.size)).toList,u.oneCell'=true:=by
       intro u oU
       obtain ⟨j,hj⟩:=List.mem_iff_getElem?.1 oU
       have Ni:j<len*sz row.τ:=by
        have:=(zU.1 hj).1; simpa [size_madeCells,JB] using this
       have hq:j/sz row.τ<len:=Nat.div_lt_of_lt_mul (by rwa [Nat.mul_comm])
       have K4:j % sz row.τ<sz row.τ:=Nat.mod_lt _ (oz _)
       have he:j/sz row.τ*sz row.τ+j % sz row.τ=j:=by rw [Nat.mul_comm]; exact Nat.div_add_mod j _
       have:=T0 _ _ hq K4
       rw [he,hj] at this
       cases de:(cells row.τ (ch row.τ))[j % sz row.τ]? with
       | none=>rw [de] at this; cases this
       | some ct =>
        rw [de] at this; simp only [Option.map_some,zA] at this
        rw [this]; exact OW _ (List.mem_map_of_mem (List.mem_of_getElem? de))
      have ng:=Lj (w:=w) (cap:=cap') hu hi hz (g:=g1) (o:=0+off*sz row.τ) (n:=len) hg (by rw [JB]; omega) gZ (by omega) ty
      have JC:(madeCells z.cells (len*z.cells.size)).toList.length=len*sz row.τ:=by simp [size_madeCells,JB]
      have Qc:γ.O g1=some (.r r):=oP g1 (by rw [h3]; rfl)
      refine ⟨_,_,ng,same (Soft.cQ (γ.cv r) (off*sz row.τ) (madeCells z.cells (len*z.cells.size)).toList) γ.O _ ?_ ?_⟩
      ·exact ⟨rfl,rfl,rfl,by simp,fun g sa cR=>⟨l8 w _ _ g (fun h=>by have:=(cR r rfl).1; rw [h,Qc] at this; exact this rfl),rfl⟩,
        fun g sa=>cm g (by simpa using sa),rfl,fun j hj=>by simp [dU,hj]⟩
      ·have mQ:(γ.cv r).length=row.xs.length*sz row.τ:=gM.1
       refine ⟨?_,fun e c ct he de=> ?_⟩
       ·show Sl X γ.O _ (dO r row.ow) row.τ _ (pj row.xs off len).length _
        rw [u4 _ hle,Cb]
        refine ⟨⟨by rw [g5 _ _ _ (by rw [mQ,JC]; omega),mQ],.inr ⟨g1,cap1,_,h3,Nat.zero_le _,sY w _ _ _ _ _ hg,HM,QQ,?_,?_⟩⟩,oP⟩
        ·rw [List.size_toArray,g5 _ _ _ (by rw [JC,Array.length_toList]; omega),Array.length_toList,iX]
        ·rw [List.toList_toArray,tZ _ _ _ _ (by rw [JC]; omega) (by simpa using Wt),SK,Nat.zero_add]
       ·have Sx:e<row.xs.length:=by
         have:e<(pj row.xs off len).length:=he
         rwa [u4 _ hle] at this
        have tq:(cells row.τ ((pj row.xs off len).getD e (ch row.τ)))[c]? =some ct:=de
        have lD:c<sz row.τ:=by have:=(zU.1 tq).1; rwa [bd] at this
        rw [NM _ hle] at tq
        show ∃ u,(Soft.cQ (γ.cv r) (off*sz row.τ) _)[e*sz row.τ+c]? =some u/\fU X γ.O _ (dR r e c row.ow) ct u
        have Ve:(e+1)*sz row.τ<=row.xs.length*sz row.τ:=zP _ Sx
        rw [Nat.add_mul] at Ve
        by_cases z5:off<=e/\e<off+len
        ·rw [if_pos z5] at tq
         obtain ⟨j,rfl⟩:∃ j,e=off+j:=⟨e-off,by omega⟩
         have hj:j<len:=by omega
         have hjz:(j+1)*sz row.τ<=len*sz row.τ:=zP _ hj
         rw [Nat.add_mul] at hjz
         refine ⟨gu ct,?_,C3 _ tq _ _ _ _⟩
         rw [show (off+j)*sz row.τ+c=off*sz row.τ+(j*sz row.τ+c) by rw [Nat.add_mul]; omega,dK _ _ _ _ (by rw [JC]; omega) (by rw [JC,mQ]; omega),T0 j c hj lD,tq]
         rfl
        ·rw [if_neg z5] at tq
         obtain ⟨u,oU,eG⟩:=bo.rG e c ct Sx tq
         refine ⟨u,?_,eG.re (fun g o sa tw=>⟨(l8 w _ _ g (fun h=>u7 tw (h▸Qc))).trans sa,tw⟩) id⟩
         rcases Nat.lt_or_ge e off with h | h
         ·have h4:(e+1)*sz row.τ<=off*sz row.τ:=zP _ h
          rw [Nat.add_mul] at h4
          rw [cT _ _ _ _ (by omega) (by rw [mQ]; omega)]; exact oU
         ·have h4:(off+len)*sz row.τ<=e*sz row.τ:=zP _ (by omega)
          rw [Nat.add_mul] at h4
          rw [cS _ _ _ _ (by rw [JC]; omega) (by rw [JC,mQ]; omega)]; exact oU
theorem R3 {α:Type} (a b c:List α) (h:b.length<=c.length):Soft.cQ (a++c) a.length b=a++(b++c.drop b.length):=by
 simp only [Soft.cQ,List.take_left,List.append_assoc,List.drop_append]
 congr 2
 simp [List.drop_of_length_le]
theorem Ov {z:Nat}:∀ (parts:List (Nat×Value)) (k:Nat) (cells:Array Value) (pre rest:List Value),(∀ j p,parts[j]? =some p->p.1=k+j/\p.2.cells.size=z)->cells.toList=pre++rest->pre.length=k*z ->
  rest.length=parts.length*z->∃ arr,Instr.fill (fun i=>some (i*z,z)) cells parts=some arr/\arr.toList=pre++(parts.flatMap fun p=>p.2.cells.toList):=by
 intro parts
 induction parts with
 | nil=>intro k cells pre rest _ hc _ hr; exact ⟨cells,rfl,by rw [hc]; simp at hr; simp [hr]⟩
 | cons p parts ih =>
  intro k cells pre rest hp hc xj eB
  obtain ⟨i,v⟩:=p
  obtain ⟨h1,h2⟩:=hp 0 (i,v) rfl
  simp only [Nat.add_zero] at h1
  subst h1
  simp only [zR,Nat.add_mul] at eB
  have mi:cells.size=pre.length+rest.length:=by rw [← Array.length_toList,hc,zK]
  simp only [Instr.fill]
  rw [if_neg (by simp [h2]; omega)]
  have hf:=F9 (i*z) v.cells.toList 0 cells (by simp [h2]; omega)
  rw [Nat.add_zero,hc] at hf
  have e:(Array.foldl (fun cs (x:Value×Nat)=>cs.setIfInBounds (i*z+x.2) x.1) cells v.cells.zipIdx).toList=(pre++v.cells.toList)++rest.drop z:=by
   rw [← Array.foldl_toList,Array.toList_zipIdx]
   rw [hf,← xj,R3 _ _ _ (by simp [h2]; omega)]
   simp [h2]
  obtain ⟨arr,ha,hl⟩:=ih (i+1) _ (pre++v.cells.toList) (rest.drop z) (fun j p hj=>by
   obtain ⟨h3,h4⟩:=hp (j+1) p (by simpa using hj)
   exact ⟨by omega,h4⟩) e (by simp [xj,h2,Nat.add_mul]) (by simp; omega)
  exact ⟨arr,ha,by rw [hl]; simp⟩
theorem Sm {P:Program} {t e:TypeId} {i:TypeInfo} {zv:Value} {z n:Nat} {parts:Array (Nat×Value)} (hu:P.underlying t=some (.slice e)) (hi:P.info? e=some i) (hz:i.zero=some zv) (hs:i.size=z) (hzp:0<z)
  (ab1:n*z<=2 ^ 24) (hn:parts.size=n) (hp:∀ (j:Nat) (p:Nat×Value),parts.toList[j]? =some p->p.1=j/\p.2.cells.size=z) :
  (Instr.buildSlice t n parts).run P w= .ok (.slice (some ⟨w.heap.size,0,none⟩) n n) (w.alloc (.cells (parts.toList.flatMap fun p=>p.2.cells.toList).toArray e)):=by
 subst hs
 by_cases h0:n=0
 ·subst h0
  have:parts= #[]:=Array.eq_empty_of_size_eq_zero hn
  subst this
  simp [Instr.buildSlice,run_underlying hu,oq hi,Instr.fill,newRow]
  rw [show Array.map (fun _=>(default:Value)) (Array.range 0)= #[] by simp [Array.range]]
 ·have Jp:¬ n*i.size=0:=by
   intro h; rcases Nat.mul_eq_zero.1 h with h | h<;>omega
  obtain ⟨arr,ha,hl⟩:=Ov (z:=i.size) parts.toList 0 ((Array.range (n*i.size)).map (zv.cells[· % zv.cells.size]!)) [] _ (fun j p hj=>by simpa using hp j p hj) (by simp; rfl) (by simp) (by simp [hn])
  have acu:arr=(parts.toList.flatMap fun p=>p.2.cells.toList).toArray:=by apply Array.toList_inj.1; rw [hl]; simp
  rw [run_buildSlice w t e n parts arr i zv hu hi hz (by omega) Jp ha,acu]
inductive GY (M:Lk) (γ:Gh):List (List Cv)->List (List Value)->Prop
 | nil:GY M γ [] []
 | cons {x:List Cv} {v:List Value} {l:List (List Cv)} {u:List (List Value)}:ca M γ x v->GY M γ l u->GY M γ (x::l) (v::u)
theorem Mv (hm:Le m M) (hR:Rel X M γ w) {key dM:Nat} (tx:dM=2\/dM=4\/dM=5) {O':OM} {w':World} {τ:Ty} :
  ∀ (l:List (List Cv)) (vss:List (List Value)) (e0:Nat) (b:Xv τ),GY M γ l vss->m.kf τ e0 l=some b->dM<=b.lv->(τ.isByte=true->b.ok=true)->IC M γ w O' w' l.flatten b.mv b.sh key dM ->
   b.ys.length=l.length/\(∀ (j:Nat) (vs:List Value),vss[j]? =some vs->vs.length=sz τ)/\vss.length=l.length /\
   ∀ (j c:Nat) (ct:Ct),j<l.length->(cells τ (b.ys.getD j (ch τ)))[c]? =some ct->∃ u,vss.flatten[j*sz τ+c]? =some u/\fU X O' w' (dR key (e0+j) c dM) ct u:=by
 intro l
 induction l with
 | nil =>
  intro vss e0 b hr hb _ _ _
  simp only [Lk.kf,zA] at hb; subst hb
  cases hr
  simp
 | cons x l ih =>
  intro vss e0 b hr hb hle xt hO
  cases hr with
  | cons hx hl =>
   rename_i v u
   simp only [Lk.kf] at hb
   cases ha:m.bT e0 0 x with
   | none=>simp [ha] at hb
   | some a =>
    cases eB:m.kf τ (e0+1) l with
    | none=>simp [ha,eB] at hb
    | some b2 =>
     cases hy:rV τ a.iw with
     | none=>simp [ha,eB,hy] at hb
     | some y =>
      simp only [ha,eB,hy,zA] at hb; subst hb
      simp only at hle xt hO ⊢
      obtain ⟨i1,i2,i3,i4⟩:=ih u (e0+1) b2 hl eB (by omega) (fun h=>by have:=xt h; simp only [zB] at this; exact this.2)
       (hO.mono (fun x hx=>by simp [hx]) (fun p hp=>by simp [hp]) (fun p hp=>by simp [hp]))
      have Wj:=ql hy (fun h=>by have:=xt h; simp only [zB] at this; exact this.1)
      obtain ⟨h1,h2⟩:=BX hm hR tx x v 0 a hx ha (by omega) (hO.mono (fun x hx=>by simp [hx]) (fun p hp=>by simp [hp]) (fun p hp=>by simp [hp]))
      have MU:v.length=sz τ:=by rw [← hx.length,← h1,← Wj,bd]
      refine ⟨by simp [i1],fun j vs hj=> ?_,by simp [i3],fun j c ct hj de=> ?_⟩
      ·cases j with
       | zero=>simp at hj; subst hj; exact MU
       | succ j=>exact i2 j vs (by simpa using hj)
      ·cases j with
       | zero =>
        simp only [List.getD_cons_zero,Wj] at de
        obtain ⟨uu,hu,eG⟩:=h2 c ct de
        have hc:c<v.length:=(zU.1 hu).1
        exact ⟨uu,by simp only [List.flatten_cons,Nat.zero_mul,Nat.zero_add]; rw [List.getElem?_append_left hc]; exact hu,by simpa using eG⟩
       | succ j =>
        simp only [List.getD_cons_succ] at de
        obtain ⟨uu,hu,eG⟩:=i4 j c ct (by simpa using hj) de
        refine ⟨uu,?_,by rw [show e0+(j+1)=e0+1+j by omega]; exact eG⟩
        rw [List.flatten_cons,List.getElem?_append_right (by rw [MU,Nat.add_mul]; omega),MU,← hu]
        congr 1; rw [Nat.add_mul]; omega
theorem DY {τ:Ty}:∀ {l:List (List Cv)} {e:Nat} {b:Xv τ},m.kf τ e l=some b->b.lv=2\/b.lv=4\/b.lv=5
 | [],e,b,h=>by simp only [Lk.kf,zA] at h; subst h; simp
 | x::l,e,b,h=>by
  simp only [Lk.kf] at h
  cases ha:m.bT e 0 x with
  | none=>simp [ha] at h
  | some a =>
   cases hr:m.kf τ (e+1) l with
   | none=>simp [ha,hr] at h
   | some b2 =>
    cases hy:rV τ a.iw with
    | none=>simp [ha,hr,hy] at h
    | some y =>
     simp only [ha,hr,hy,zA] at h; subst h
     have:=qv ha
     have:=DY hr
     simp only; omega
theorem Da {τ:Ty}:∀ {l:List (List Cv)} {e:Nat} {b:Xv τ} {r k:Nat},m.kf τ e l=some b->(r,k)∈b.sh->∃ row,m.r r=some row/\((k=3/\nF 4 row.ow=true)\/(k=4/\row.ow=5))
 | [],e,b,r,k,h,hs=>by simp only [Lk.kf,zA] at h; subst h; simp at hs
 | x::l,e,b,r,k,h,hs=>by
  simp only [Lk.kf] at h
  cases ha:m.bT e 0 x with
  | none=>simp [ha] at h
  | some a =>
   cases hr:m.kf τ (e+1) l with
   | none=>simp [ha,hr] at h
   | some b2 =>
    cases hy:rV τ a.iw with
    | none=>simp [ha,hr,hy] at h
    | some y =>
     simp only [ha,hr,hy,zA] at h; subst h
     simp only [zH] at hs
     rcases hs with hs | hs
     ·exact lN ha hs
     ·exact Da hr hs
end Go.Soft
