import Derived.Laws.AppendOwn
import Derived.KernelRfl
import Derived.Laws.Slices
import Derived.Laws.BytesString
import Derived.Laws.StructEq
import Derived.Great.BuildSlice
import Derived.Laws.OwnMore
set_option linter.constructorNameAsVariable false
set_option linter.unusedVariables false
set_option linter.unusedSimpArgs false
namespace Go.Soft
theorem zA {α:Type _} (a b:α):(some a=some b)=(a=b):=Option.some.injEq a b
theorem zB (a b:Bool):((a&&b)=true)=(a=true/\b=true):=Bool.and_eq_true a b
theorem zC (n:Nat):(n:Int).toNat=n:=Int.toNat_natCast n
theorem zD {p:Prop} [Decidable p]:(decide p=true)=p:=decide_eq_true_eq
theorem zE {α:Sort _} {a b:α}:cond true a b=a:=rfl
theorem zF {α:Sort _} {a b:α}:cond false a b=b:=rfl
theorem zG {α β:Type _} (a:α) (b:β) (c:α) (d:β):((a,b)=(c,d))=(a=c/\b=d):=Prod.mk.injEq a b c d
theorem zH {α:Type _} {a:α} {s t:List α}:a∈s++t↔a∈s\/a∈t:=List.mem_append
theorem zI {α:Type _} {a b:α} {l:List α}:a∈b::l↔a=b\/a∈l:=List.mem_cons
theorem zJ {α:Type _} (y:α) {a:α} {l:List α}:a∈l->a∈y::l:=List.mem_cons_of_mem y
theorem zK {α:Type _} {a b:List α}:(a++b).length=a.length+b.length:=List.length_append
theorem zL {α:Type _} {a:α}:[a].length=1:=rfl
theorem zM:(!true)=false:=rfl
theorem zN:(!false)=true:=rfl
theorem zO {α:Type _} {a:α} {l:List α}:a∈a::l:=List.mem_cons_self
theorem zP {m n:Nat} (k:Nat) (h:m<=n):m*k<=n*k:=Nat.mul_le_mul_right k h
theorem zQ {n m:Nat} (h:Nat.ble n m=true):n<=m:=Nat.le_of_ble_eq_true h
theorem zR {α:Type _} {a:α} {l:List α}:(a::l).length=l.length+1:=rfl
theorem zS {α:Type _} {a b:α}:a∈[b]↔a=b:=List.mem_singleton
theorem zT {α:Type _} {l:List α} {i:Nat} {a:α}:l.getD i a=l[i]?.getD a:=List.getD_eq_getElem?_getD
theorem zU {α:Type _} {a:α} {l:List α} {i:Nat}:l[i]? =some a↔∃ h:i<l.length,l[i]=a:=List.getElem?_eq_some_iff
theorem zV (h:Decidable True):@decide True h=true:=decide_true h
structure Slot where
 Name:ByteArray
 Ino:Int
structure aV where
 Kind:Int
 Links:Int
 ay:List Int
structure Block where
 cf:Bool
 ah:List Slot
 Text:ByteArray
structure bG where
 Id:Int
 Kind:Int
 Ino:Int
 Ptr:Int
 Block:Int
 Slot:Int
 Name:ByteArray
 au:Bool
 eJ:Bool
 bx:Int
 ab:List Int
structure Node where
 Path:ByteArray
 cf:Bool
 Head:ByteArray
 OX:ByteArray
structure Event where
 Kind:Int
 Path:ByteArray
 To:ByteArray
 At:Int
 Text:ByteArray
inductive Ty | int | bool | byte | str | slot | inode | block | dep | node | event
abbrev El:Ty->Type
 | .int=>Int | .bool=>Bool | .byte=>UInt8 | .str=>ByteArray | .slot=>Slot | .inode=>aV
 | .block=>Block | .dep=>bG | .node=>Node | .event=>Event
inductive Ct
 | u | b (x:Bool) | i (k:IntKind) (n:Int) | s (x:ByteArray) | l (τ:Ty) (xs:List (El τ))
def cy:(τ:Ty)->El τ
 | .int=>0 | .bool=>false | .byte=>0 | .str=> .empty | .slot=>⟨.empty,0⟩ | .inode=>⟨0,0,[]⟩ | .block=>⟨false,[],.empty⟩
 | .dep=>⟨0,0,0,0,0,0,.empty,false,false,0,[]⟩ | .node=>⟨.empty,false,.empty,.empty⟩ | .event=>⟨0,.empty,.empty,0,.empty⟩
def cells:(τ:Ty)->El τ->List Ct
 | .int,n=>[.i .i64 n]
 | .bool,x=>[.b x]
 | .byte,x=>[.i .u8 (x.toNat:Int)]
 | .str,x=>[.s x]
 | .slot,x=>[.s x.Name,.i .i64 x.Ino]
 | .inode,x=>[.i .i64 x.Kind,.i .i64 x.Links,.l .int x.ay]
 | .block,x=>[.b x.cf,.l .slot x.ah,.s x.Text]
 | .dep,x=>[.i .i64 x.Id,.i .i64 x.Kind,.i .i64 x.Ino,.i .i64 x.Ptr,.i .i64 x.Block,.i .i64 x.Slot,.s x.Name,.b x.au,.b x.eJ,.i .i64 x.bx,.l .int x.ab]
 | .node,x=>[.s x.Path,.b x.cf,.s x.Head,.s x.OX]
 | .event,x=>[.i .i64 x.Kind,.s x.Path,.s x.To,.i .i64 x.At,.s x.Text]
def sz:Ty->Nat
 | .int=>1 | .bool=>1 | .byte=>1 | .str=>1 | .slot=>2 | .inode=>3 | .block=>3 | .dep=>11 | .node=>4 | .event=>5
def sj:(τ:Ty)->List Ct->Option (El τ)
 | .int,[.i .i64 n]=>some n
 | .bool,[.b x]=>some x
 | .byte,[.i .u8 n]=>some (UInt8.ofNat n.toNat)
 | .str,[.s x]=>some x
 | .slot,[.s n,.i .i64 i]=>some ⟨n,i⟩
 | .inode,[.i .i64 k,.i .i64 l,.l .int p]=>some ⟨k,l,p⟩
 | .block,[.b d,.l .slot s,.s t]=>some ⟨d,s,t⟩
 | .dep,[.i .i64 a,.i .i64 b,.i .i64 c,.i .i64 d,.i .i64 e,.i .i64 f,.s g,.b h,.b i,.i .i64 j,.l .int k]=>some ⟨a,b,c,d,e,f,g,h,i,j,k⟩
 | .node,[.s a,.b b,.s c,.s d]=>some ⟨a,b,c,d⟩
 | .event,[.i .i64 a,.s b,.s c,.i .i64 d,.s e]=>some ⟨a,b,c,d,e⟩
 | _,_=>none
def Di:Ty->List Ct->Bool
 | .byte,[.i .u8 n]=>decide (0<=n)&&decide (n<256)
 | _,_=>true
def Ty.isByte:Ty->Bool
 | .byte=>true
 | _=>false
def Ty.deep:Ty->Bool
 | .inode | .block | .dep=>true
 | _=>false
inductive Cv
 | un | b (x:Bool) | i (k:IntKind) (n:Int) | s (x:ByteArray)
 | nl (τ:Ty)
 | sw (r:Nat) | sl (r off len:Nat)
 | nw (r e c:Nat) | ns (r e c off len:Nat)
 | pv (v c:Nat) | pe (r e c:Nat) | pn (r e c k d:Nat)
 | fn (f:Nat) (caps:List Nat)
inductive AV
 | c (x:Cv) | a (l:List Cv) | t (l:List (Bool×List Cv))
 | g (p:List (Nat×Bool)) (q:Bool) (v:AV)
structure Row where
 τ:Ty
 xs:List (El τ)
 ow:Nat
structure St where
 tm:List (Nat×AV)
 vs:List (Nat×List Cv)
 rs:List (Nat×Row)
def eG (w:Nat):Bool:=match w with | 2=>true | 4=>true | 5=>true | _=>false
def oq (d a:Nat):Bool:=match d with
 | 1=>true
 | 2=>eG a
 | 3=>(match a with | 3=>true | 4=>true | 5=>true | _=>false)
 | 4=>(match a with | 4=>true | 5=>true | _=>false)
 | 5=>(match a with | 5=>true | _=>false)
 | _=>false
def sf (w:Nat):Bool:=match w with | 3=>true | 4=>true | 5=>true | _=>false
def SR (w:Nat):Nat:=match w with | 3=>4 | _=>2
def PU (w:Nat):Nat:=match w with | 1=>1 | 2=>1 | _=>3
def lk {α:Type}:List (Nat×α)->Nat->Option α
 | [],_=>none
 | (k,v)::l,n=>match Nat.beq k n with
  | true=>some v
  | false=>lk l n
def WU {α:Type} (n:Nat):List (Nat×α)->List (Nat×α)
 | []=>[]
 | (k,v)::l=>match Nat.beq k n with
  | true=>WU n l
  | false=>(k,v)::WU n l
def LR {α:Type} (n:Nat) (v:α):List (Nat×α)->List (Nat×α)
 | []=>[]
 | (k,u)::l=>match Nat.beq k n with
  | true=>(k,v)::LR n v l
  | false=>(k,u)::LR n v l
def put {α:Type} (l:List (Nat×α)) (n:Nat) (v:α):List (Nat×α) :=
 match lk l n with
 | some _=>LR n v l
 | none=>(n,v)::l
def cp (n:Nat):List Nat->Bool
 | []=>false
 | k::l=>match Nat.beq k n with
  | true=>true
  | false=>cp n l
def nth {α:Type}:List α->Nat->Option α
 | [],_=>none
 | x::_,0=>some x
 | _::l,n+1=>nth l n
def sm {α β:Type} (f:α->β):List α->List β
 | []=>[]
 | x::l=>f x::sm f l
def Bb:List (Nat×Bool)->List (Nat×Bool)->Bool
 | [],_=>true
 | _::_,[]=>false
 | (a,x)::l,(b,y)::m=>Nat.beq a b&&((match x,y with | true,true | false,false=>true | _,_=>false)&&Bb l m)
structure Ctx where
 P:Program
 ty:List (Nat×Ty)
 id:Ty->TypeId
 eqs:List (Nat×List Ct)
 nt:Nat
def Ctx.at (X:Ctx) (f:Func):Ctx:={ X with nt:=f.ntmps }
def Ctx.Si (X:Ctx) (t:TypeId):Option Ty:=lk X.ty t
def AT (P:Program) (t:TypeId):Bool:=match P.underlying t with | some (.struct _) | some (.array ..)=>true | _=>false
def gj (P:Program) (t:TypeId):Nat:=match P.info? t with | some i=>i.size | none=>0
def De (P:Program) (t:TypeId):Bool:=match P.underlying t with | some (.struct _)=>true | some (.array ..)=>true | some _=>Nat.beq (gj P t) 1 | none=>false
def yb (P:Program) (t:TypeId) (f:Nat):Option Nat:=match P.underlying t with | some (.struct fs)=>(match fs[f]? with | some x=>some x.offset | none=>none) | _=>none
def C1 (P:Program) (t:TypeId) (f:Nat):TypeId:=match P.underlying t with | some (.struct fs)=>(match fs[f]? with | some x=>x.type | none=>0) | _=>0
def Pk (P:Program) (t:TypeId):Option TypeId:=match P.underlying t with | some (.slice e)=>some e | _=>none
def Ctx.Xt (X:Ctx) (t:TypeId):Option Ty:=match Pk X.P t with | some e=>X.Si e | none=>none
def Ctx.lT (X:Ctx) (t:TypeId):Option Ty:=match Pk X.P t with
 | some e=>match X.Si e with
  | some τ=>match Nat.beq (X.id τ) e with | true=>some τ | false=>none
  | none=>none
 | none=>none
def Ctx.cst (X:Ctx) (t:TypeId):Value->Cv
 | .bool b=> .b b
 | .int k n=> .i k n
 | .string s=> .s s
 | .slice none 0 0=>match X.Xt t with | some τ=> .nl τ | none=> .un
 | _=> .un
def Ctx.TZ (X:Ctx):Nat->TypeId->Option (List Cv)
 | 0,_=>none
 | d+1,t=>match X.P.underlying t with
  | some .bool=>some [.b false]
  | some (.int k)=>some [.i k 0]
  | some .string=>some [.s .empty]
  | some (.slice e)=>match X.Si e with | some τ=>some [.nl τ] | none=>some [.un]
  | some (.struct fs)=>zs (X.TZ d) fs.toList
  | _=>none
 where zs (f:TypeId->Option (List Cv)):List Field->Option (List Cv)
 | []=>some []
 | x::l=>match f x.type,zs f l with
  | some a,some b=>some (a++b)
  | _,_=>none
def Gj:IntKind->IntKind->Bool
 | .i8,.i8 | .i16,.i16 | .i32,.i32 | .i64,.i64 | .u8,.u8 | .u16,.u16 | .u32,.u32 | .u64,.u64=>true
 | _,_=>false
def XY:Cv->Value->Bool
 | .un,.agg _=>false
 | .un,.tuple _=>false
 | .un,_=>true
 | .b false,.bool false=>true
 | .i k n,.int k' n'=>Gj k k'&&(match n,n' with | .ofNat 0,.ofNat 0=>true | _,_=>false)
 | .s x,.string y=>Nat.beq x.size 0&&Nat.beq y.size 0
 | .nl _,.slice none 0 0=>true
 | _,_=>false
def Nh:List Cv->List Value->Bool
 | [],[]=>true
 | x::l,y::m=>XY x y&&Nh l m
 | _,_=>false
def HK (P:Program):List Field->Bool
 | []=>true
 | f::l=>match P.info? f.type with | some _=>HK P l | none=>false
def R7 (P:Program) (t:TypeId):Bool:=match P.underlying t with | some (.struct fs)=>HK P fs.toList | _=>false
def Ctx.zero (X:Ctx) (t:TypeId):Option (List Cv):=match X.TZ 8 t,X.P.info? t with
 | some cs,some i=>match i.zero with
  | some z=>match Nh cs z.cells.toList with | true=>some cs | false=>none
  | none=>none
 | _,_=>none
def St.get (s:St) (t:Nat):AV:=match lk s.tm t with | some v=>v | none=> .c .un
def St.put (s:St) (d:Option Nat) (v:AV):St:=match d with | some d=>{ s with tm:=(d,v)::s.tm } | none=>s
def Ctx.yj (X:Ctx) (s:St) (p:List (Nat×Bool)) (ty:TypeId):Operand->AV
 | .tmp t=>match s.get t with
  | .g p' _ v=>match Bb p' p with | true=>v | false=> .c .un
  | v=>v
 | .const v=> .c (X.cst ty v)
 | .func f=> .c (.fn f [])
 | .global _=> .c .un
structure Lk where
 r:Nat->Option Row
 v:Nat->Option (List Cv)
def St.lk (s:St):Lk:=⟨Soft.lk s.rs,Soft.lk s.vs⟩
def Yk (r e:Nat) (c:Nat):Ct->Cv
 | .u=> .un | .b x=> .b x | .i k n=> .i k n | .s x=> .s x | .l _ _=> .nw r e c
def sC (r e:Nat):Nat->List Ct->List Cv
 | _,[]=>[]
 | c,x::l=>Yk r e c x::sC r e (c+1) l
def Row.cs (row:Row) (e:Nat):List Ct:=cells row.τ (row.xs.getD e (cy row.τ))
inductive Vw
 | no | w (τ:Ty) (xs:List (El τ)) | p (τ:Ty) (xs:List (El τ)) (off len:Nat)
def Lk.vw (m:Lk):Cv->Vw
 | .nl τ=> .w τ []
 | .sw r=>match m.r r with | some row=> .w row.τ row.xs | none=> .no
 | .sl r off len=>match m.r r with | some row=> .p row.τ row.xs off len | none=> .no
 | .nw r e c=>match m.r r with
  | some row=>match nth (row.cs e) c with | some (.l τ ys)=> .w τ ys | _=> .no
  | none=> .no
 | .ns r e c off len=>match m.r r with
  | some row=>match nth (row.cs e) c with | some (.l τ ys)=> .p τ ys off len | _=> .no
  | none=> .no
 | _=> .no
def sub {α:Type} (xs:List α) (off len:Nat):List α:=(xs.drop off).take len
def Vw.ct:Vw->Option Ct
 | .no=>none
 | .w τ xs=>some (.l τ xs)
 | .p τ xs off len=>some (.l τ (sub xs off len))
def Vw.len:Vw->Option Nat
 | .no=>none
 | .w _ xs=>some xs.length
 | .p _ _ _ len=>some len
def Lk.ct (m:Lk):Cv->Option Ct
 | .un=>some .u | .b x=>some (.b x) | .i k n=>some (.i k n) | .s x=>some (.s x)
 | c=>(m.vw c).ct
def Lk.iJ (m:Lk):List Cv->Option (List Ct)
 | []=>some []
 | c::l=>match m.ct c with
  | some x=>match m.iJ l with | some y=>some (x::y) | none=>none
  | none=>none
def Lk.from (m:Lk):Cv->Option (List Cv)
 | .pv v c=>match m.v v with | some cs=>some (cs.drop c) | none=>none
 | .pe r e c=>match m.r r with | some row=>some ((sC r e 0 (row.cs e)).drop c) | none=>none
 | .pn r e c k d=>match m.vw (.nw r e c) with
  | .w τ ys=>match τ.deep with
   | true=>none
   | false=>some ((sC 0 0 0 (cells τ (ys.getD k (cy τ)))).drop d)
  | _=>none
 | _=>none
structure Dl where
 mv:List (Nat×(Nat×Nat×Nat))
 kr:List Nat
 ke:List Nat
 kn:List Nat
 kv:List Nat
 rs:List (Nat×Option Row)
 vs:List (Nat×List Cv)
def Dl.z:Dl:=⟨[],[],[],[],[],[],[]⟩
def Cv.row:Cv->Option Nat
 | .sw r | .sl r _ _ | .nw r _ _ | .ns r _ _ _ _ | .pe r _ _ | .pn r _ _ _ _=>some r
 | _=>none
def Cv.inner:Cv->Bool
 | .nw .. | .ns .. | .pn .. =>true
 | _=>false
def sb (l m:List Nat):Bool:=match l with
 | []=>false
 | x::l=>match cp x m with | true=>true | false=>sb l m
def Dl.map (δ:Dl) (x:Cv):Cv:=match x with
 | .pv v _=>match cp v δ.kv with | true=> .un | false=>x
 | .fn _ caps=>match sb caps δ.kv with | true=> .un | false=>x
 | .sw r=>match Soft.lk δ.mv r with
  | some (d,e,c)=> .nw d e c
  | none=>match cp r δ.kr with | true=> .un | false=>x
 | .sl r o n=>match Soft.lk δ.mv r with
  | some (d,e,c)=> .ns d e c o n
  | none=>match cp r δ.kr,cp r δ.ke with | false,false=>x | _,_=> .un
 | .pe r k a=>match Soft.lk δ.mv r with
  | some (d,e,c)=> .pn d e c k a
  | none=>match cp r δ.kr,cp r δ.ke with | false,false=>x | _,_=> .un
 | .nw r _ _ | .ns r _ _ _ _ | .pn r _ _ _ _=>match Soft.lk δ.mv r with
  | some _=> .un
  | none=>match cp r δ.kr,cp r δ.ke,cp r δ.kn with | false,false,false=>x | _,_,_=> .un
 | x=>x
def kC (f:Cv->Cv):AV->AV
 | .c x=> .c (f x)
 | .a l=> .a (l.map f)
 | .t l=> .t (l.map fun p=>(p.1,p.2.map f))
 | .g p q v=> .g p q (kC f v)
def Iz (l:List (Nat×Row)):List (Nat×Option Row)->List (Nat×Row)
 | []=>l
 | (k,some row)::m=>Iz (Soft.put l k row) m
 | (k,Option.none)::m=>Iz (WU k l) m
def Oy (l:List (Nat×List Cv)):List (Nat×List Cv)->List (Nat×List Cv)
 | []=>l
 | (k,cs)::m=>Oy (Soft.put l k cs) m
def Dl.quiet (δ:Dl):Bool:=match δ.mv,δ.kr,δ.ke,δ.kn,δ.kv with
 | [],[],[],[],[]=>true
 | _,_,_,_,_=>false
def St.app (s:St) (δ:Dl):St:=match δ.quiet with
 | true=>⟨s.tm,Oy s.vs δ.vs,Iz s.rs δ.rs⟩
 | false=>⟨s.tm.map fun p=>(p.1,kC δ.map p.2),Oy (s.vs.map fun p=>(p.1,p.2.map δ.map)) δ.vs,Iz s.rs δ.rs⟩
structure Ab where
 ct:Ct
 mv:Option Nat
 sh:Option (Nat×Nat)
 lv:Nat
def Lk.eR (m:Lk) (x:Cv):Option Ab :=
 match x with
 | .b y=>some ⟨.b y,none,none,5⟩ | .i k n=>some ⟨.i k n,none,none,5⟩ | .s y=>some ⟨.s y,none,none,5⟩
 | .nl τ=>match τ.deep with | true=>none | false=>some ⟨.l τ [],none,none,5⟩
 | .sw r=>match m.r r with
  | some row=>match row.τ.deep with
   | true=>none
   | false=>match eG row.ow with
    | true=>some ⟨.l row.τ row.xs,some r,none,5⟩
    | false=>some ⟨.l row.τ row.xs,none,none,SR row.ow⟩
  | none=>none
 | x=>match (m.vw x).ct,x.row with
  | some (.l τ y),some r=>match τ.deep,m.r r with
   | false,some row=>match x.inner with
    | true=>match row.ow with
     | 5=>some ⟨.l τ y,none,some (r,4),4⟩
     | 4=>some ⟨.l τ y,none,none,4⟩
     | 3=>some ⟨.l τ y,none,none,4⟩
     | _=>some ⟨.l τ y,none,none,2⟩
    | false=>match eG row.ow with
     | true=>match oq 4 row.ow with
      | true=>some ⟨.l τ y,none,some (r,3),4⟩
      | false=>none
     | false=>some ⟨.l τ y,none,none,SR row.ow⟩
   | _,_=>none
  | _,_=>none
structure I9 where
 iJ:List Ct
 mv:List (Nat×(Nat×Nat))
 sh:List (Nat×Nat)
 lv:Nat
def Lk.bW (m:Lk) (e:Nat):Nat->List Cv->Option I9
 | _,[]=>some ⟨[],[],[],5⟩
 | c,x::l=>match m.eR x,m.bW e (c+1) l with
  | some a,some b=>some ⟨a.ct::b.iJ,(match a.mv with | some r=>(r,(e,c))::b.mv | none=>b.mv),(match a.sh with | some p=>p::b.sh | none=>b.sh),min a.lv b.lv⟩
  | _,_=>none
def fC:List Nat->Bool
 | []=>true
 | x::l=>match cp x l with | true=>false | false=>fC l
def jG:List Nat->List Nat->Bool
 | [],_=>true
 | x::l,m=>match cp x m with | true=>false | false=>jG l m
def keys {α:Type}:List (Nat×α)->List Nat
 | []=>[]
 | (k,_)::l=>k::keys l
def Lk.share (m:Lk):List (Nat×Nat)->List (Nat×Option Row)
 | []=>[]
 | (r,w)::l=>match m.r r with
  | some row=>(r,some { row with ow:=w })::m.share l
  | none=>m.share l
def gone:List (Nat×(Nat×Nat))->List (Nat×Option Row)
 | []=>[]
 | (r,_)::l=>(r,none)::gone l
inductive Out | no | r0 (v:AV) | r (p:Bool) (v:AV) | w0 (v:AV) (δ:Dl) | w (p:Bool) (v:AV) (δ:Dl)
def U7 (ag:Bool) (l:List Cv):AV:=match ag with
 | true=> .a l
 | false=>match l with | [x]=> .c x | _=> .c .un
def AV.cells:AV->Option (List Cv)
 | .c .un=>none
 | .c x=>some [x]
 | .a l=>some l
 | _=>none
def u8:AV:= .t []
def U6 (op:BinOp) (a b:Int):Option Bool:=match op with
 | .eql=>some (a==b) | .neq=>some (!(a==b)) | .lss=>some (decide (a<b)) | .leq=>some (decide (a<=b)) | .gtr=>some (decide (b<a)) | .geq=>some (decide (b<=a))
 | _=>none
def Rf (a b:ByteArray):Bool:=Op.bytesLess a.toList b.toList
def Yf (op:BinOp) (a b:ByteArray):Option Bool:=match op with
 | .eql=>some (a==b) | .neq=>some (!(a==b)) | .lss=>some (Rf a b) | .gtr=>some (Rf b a) | .leq=>some (!(Rf b a)) | .geq=>some (!(Rf a b))
 | _=>none
def N7:Cv->Cv->Option Bool
 | .b x,.b y=>some (x==y)
 | .i _ x,.i _ y=>some (x==y)
 | .s x,.s y=>some (x==y)
 | _,_=>none
def zl:List Cv->List Cv->Option Bool
 | [],[]=>some true
 | x::l,y::m=>match N7 x y,zl l m with
  | some a,some b=>some (match l with | []=>a | _=>a&&b)
  | _,_=>none
 | _,_=>none
def MR:Ty->Ty->Bool
 | .int,.int | .bool,.bool | .byte,.byte | .str,.str | .slot,.slot | .inode,.inode | .block,.block | .dep,.dep | .node,.node | .event,.event=>true
 | _,_=>false
def m7 (op:BinOp) (x y:AV):Out:=match x,y with
 | .c (.i k a),.c (.i k' b)=>match op with
  | .shl=> .r (decide (0<=b)) (.c (.i k (k.wrap (a*2 ^ (min b.toNat k.bits)))))
  | .shr=> .r (decide (0<=b)) (.c (.i k (a.fdiv (2 ^ (min b.toNat k.bits)))))
  | op=>match Gj k k' with
   | false=> .no
   | true=>match op with
    | .add=> .r0 (.c (.i k (k.wrap (a+b)))) | .sub=> .r0 (.c (.i k (k.wrap (a-b)))) | .mul=> .r0 (.c (.i k (k.wrap (a*b))))
    | .quo=> .r (!(b==0)) (.c (.i k (k.wrap (a.tdiv b))))
    | .rem=> .r (!(b==0)) (.c (.i k (a.tmod b)))
    | .and=> .r0 (.c (.i k (k.wrap ((BitVec.ofInt k.bits a &&& BitVec.ofInt k.bits b).toNat))))
    | .or=> .r0 (.c (.i k (k.wrap ((BitVec.ofInt k.bits a ||| BitVec.ofInt k.bits b).toNat))))
    | .xor=> .r0 (.c (.i k (k.wrap ((BitVec.ofInt k.bits a ^^^ BitVec.ofInt k.bits b).toNat))))
    | op=>match U6 op a b with | some c=> .r0 (.c (.b c)) | none=> .no
 | .c (.s a),.c (.s b)=>match op with
  | .add=> .r (decide (a.size+b.size<=4611686018427387904)) (.c (.s (a++b)))
  | op=>match Yf op a b with | some c=> .r0 (.c (.b c)) | none=> .no
 | .c (.b a),.c (.b b)=>match op with
  | .eql=> .r0 (.c (.b (a==b))) | .neq=> .r0 (.c (.b (!(a==b)))) | _=> .no
 | .a l,.a m=>match op,zl l m with
  | .eql,some c=> .r0 (.c (.b c)) | .neq,some c=> .r0 (.c (.b (!c))) | _,_=> .no
 | _,_=> .no
def Xz (x:Bool) (u v:AV):AV:=match u,v with
 | .c (.b p),.c (.b q)=> .c (.b (bif x then p else q))
 | _,_=> .c .un
def bt (s:ByteArray) (i:Nat):Nat:=(s.data.getD i 0).toNat
def aZ (i:Int) (n:Nat):Bool:=decide (0<=i)&&decide (i<(n:Int))
def Lk.q7 (m:Lk) (x:Cv) (i:Int) (z:Nat):Out:=match x with
 | .sw r=>match m.vw x with | .w τ xs=>(match Nat.beq (sz τ) z with | true=> .r (aZ i xs.length) (.c (.pe r i.toNat 0)) | false=> .no) | _=> .no
 | .sl r off len=>match m.vw x with | .p τ _ _ _=>(match Nat.beq (sz τ) z with | true=> .r (aZ i len) (.c (.pe r (off+i.toNat) 0)) | false=> .no) | _=> .no
 | .nw r e c=>match m.vw x with | .w τ xs=>(match Nat.beq (sz τ) z with | true=> .r (aZ i xs.length) (.c (.pn r e c i.toNat 0)) | false=> .no) | _=> .no
 | .ns r e c off len=>match m.vw x with | .p τ _ _ _=>(match Nat.beq (sz τ) z with | true=> .r (aZ i len) (.c (.pn r e c (off+i.toNat) 0)) | false=> .no) | _=> .no
 | .nl _=> .r false (.c .un)
 | _=> .no
def JT (x:Cv) (n:Nat):Cv:=match x with
 | .pv v c=> .pv v (c+n) | .pe r e c=> .pe r e (c+n) | .pn r e c k d=> .pn r e c k (d+n) | _=> .un
def cY {α:Type} (l:List α) (c:Nat) (m:List α):List α:=l.take c++m++l.drop (c+m.length)
def j7:List Cv->Bool
 | []=>true
 | .b _::l | .i .. ::l | .s _::l=>j7 l
 | _=>false
def Vf (r:Nat):List (Nat×(Nat×Nat))->List (Nat×(Nat×Nat×Nat))
 | []=>[]
 | (k,(e,c))::l=>(k,(r,e,c))::Vf r l
def Lk.store (m:Lk) (x:Cv) (vl:List Cv):Out:=match x with
 | .pv v c=>match m.v v with
  | some cs=>match Nat.ble (c+vl.length) cs.length with
   | true=> .w0 u8 { Dl.z with vs:=[(v,cY cs c vl)] }
   | false=> .no
  | none=> .no
 | .pe r e c=>match m.r r with
  | some row=>match eG row.ow,m.bW e c vl with
   | true,some a=>match Nat.ble (c+vl.length) (sz row.τ),sj row.τ (cY (row.cs e) c a.iJ) with
    | true,some y=>match j7 vl with
     | true=> .w (Di row.τ a.iJ) u8 { Dl.z with rs:=[(r,some { row with xs:=row.xs.set e y })] }
     | false=>match fC (r::(keys a.mv++keys a.sh)) with
      | true=> .w (Di row.τ a.iJ) u8 { Dl.z with mv:=Vf r a.mv,kn:=[r],rs:=gone a.mv++(m.share a.sh++[(r,some { row with xs:=row.xs.set e y,ow:=min row.ow a.lv })]) }
      | false=> .no
    | _,_=> .no
   | _,_=> .no
  | none=> .no
 | .pn r e c k d=>match m.r r with
  | some row=>match Nat.beq row.ow 5,j7 vl,m.iJ vl with
   | true,true,some iJ=>match nth (row.cs e) c with
    | some (.l τ ys)=>match Nat.ble (d+vl.length) (sz τ),sj τ (cY (cells τ (ys.getD k (cy τ))) d iJ) with
     | true,some y=>match sj row.τ (cY (row.cs e) c [.l τ (ys.set k y)]) with
      | some z=> .w (Di τ iJ) u8 { Dl.z with rs:=[(r,some { row with xs:=row.xs.set e z })] }
      | none=> .no
     | _,_=> .no
    | _=> .no
   | _,_,_=> .no
  | none=> .no
 | _=> .no
structure XC (τ:Ty) where
 ys:List (El τ)
 mv:List (Nat×(Nat×Nat))
 sh:List (Nat×Nat)
 lv:Nat
 ok:Bool
def Lk.kq (m:Lk) (τ:Ty):Nat->List (List Cv)->Option (XC τ)
 | _,[]=>some ⟨[],[],[],5,true⟩
 | e,x::l=>match m.bW e 0 x,m.kq τ (e+1) l with
  | some a,some b=>match sj τ a.iJ with
   | some y=>some ⟨y::b.ys,a.mv++b.mv,a.sh++b.sh,min a.lv b.lv,Di τ a.iJ&&b.ok⟩
   | none=>none
  | _,_=>none
def NM:Nat:=1099511627776
def AW:(τ τ':Ty)->List (El τ')->List (El τ)->Option (List (El τ'))
 | .int,.int,xs,ys=>some (xs++ys) | .bool,.bool,xs,ys=>some (xs++ys) | .byte,.byte,xs,ys=>some (xs++ys) | .str,.str,xs,ys=>some (xs++ys)
 | .slot,.slot,xs,ys=>some (xs++ys) | .inode,.inode,xs,ys=>some (xs++ys) | .block,.block,xs,ys=>some (xs++ys) | .dep,.dep,xs,ys=>some (xs++ys)
 | .node,.node,xs,ys=>some (xs++ys) | .event,.event,xs,ys=>some (xs++ys) | _,_,_,_=>none
def W5 (a:Option Nat) (b:Nat):Bool:=match a with | some a=>(match Nat.beq a b with | true=>false | false=>true) | none=>true
structure Ap where
 gone:List Nat
 rs:List (Nat×Option Row)
 lv:Nat
def Lk.jc (m:Lk) (τ:Ty) (y:Cv):Ap:=match τ.deep,y.row with
 | true,some r=>match m.r r with
  | some row=>match row.ow with
   | 5=>(match y with
    | .sw _=>⟨[r],[(r,none)],5⟩
    | _=>⟨[],[(r,some { row with ow:=4 })],4⟩)
   | 4=>⟨[],[],4⟩
   | 3=>⟨[],[],4⟩
   | _=>⟨[],[],2⟩
  | none=>⟨[],[],2⟩
 | _,_=>⟨[],[],5⟩
def zk (r:Nat):Bool:=match Nat.ble 200000 r,Nat.ble r 299999 with | true,true=>false | _,_=>true
def Lk.append (m:Lk) (τ0:Ty) (d:Nat) (x y:Cv):Out :=
 match (m.vw y).ct with
 | some (.l τ ys)=>match MR τ τ0,m.jc τ y with
  | true,⟨g,sy,lv⟩=>match x with
   | .nl _=>match W5 y.row (d*64) with
    | true=> .w (Nat.ble ys.length NM) (.c (.sw (d*64))) { Dl.z with kr:=d*64::g,rs:=sy++[(d*64,some ⟨τ,ys,lv⟩)] }
    | false=> .no
   | .sw r=>match W5 y.row r&&zk r,m.r r with
    | true,some ⟨τ',xs,ow⟩=>match eG ow,AW τ τ' xs ys with
     | true,some zs=> .w (Nat.ble zs.length NM) (.c (.sw r)) { Dl.z with kr:=r::g,rs:=sy++[(r,some ⟨τ',zs,min ow lv⟩)] }
     | _,_=> .no
    | _,_=> .no
   | _=> .no
  | _,_=> .no
 | _=> .no
def Lk.o0 (m:Lk) (x:AV) (lo hi:Option Int):Out:=match x with
 | .c (.s a)=>match lo,hi with
  | none,none=> .r0 (.c (.s (a.extract 0 a.size)))
  | some l,none=> .r (decide (0<=l)&&decide (l<=(a.size:Int))) (.c (.s (a.extract l.toNat a.size)))
  | none,some h=> .r (decide (0<=h)&&decide (h<=(a.size:Int))) (.c (.s (a.extract 0 h.toNat)))
  | some l,some h=> .r (decide (0<=l)&&(decide (l<=h)&&decide (h<=(a.size:Int)))) (.c (.s (a.extract l.toNat h.toNat)))
 | .c x=>match (m.vw x).len with
  | none=> .no
  | some n =>
   let mk (l:Nat) (k:Nat):AV:=match x with
    | .sw r=> .c (.sl r l k) | .sl r off _=> .c (.sl r (off+l) k) | .nw r e c=> .c (.ns r e c l k) | .ns r e c off _=> .c (.ns r e c (off+l) k) | .nl τ=> .c (.nl τ) | _=> .c .un
   match lo,hi with
   | none,none=> .r0 (.c x)
   | some l,none=> .r (decide (0<=l)&&decide (l<=(n:Int))) (mk l.toNat (n-l.toNat))
   | none,some h=> .r (decide (0<=h)&&decide (h<=(n:Int))) (mk 0 h.toNat)
   | some l,some h=> .r (decide (0<=l)&&(decide (l<=h)&&decide (h<=(n:Int)))) (mk l.toNat (h.toNat-l.toNat))
 | _=> .no
def AV.int:AV->Option Int
 | .c (.i _ n)=>some n
 | _=>none
def I0 (f:Operand->AV):Option Operand->Option (Option Int)
 | none=>some none
 | some o=>match (f o).int with | some n=>some (some n) | none=>none
def CF (X:Ctx) (t:TypeId) (f:Operand->AV):List (Nat×Operand)->List Cv->Option (List Cv)
 | [],acc=>some acc
 | (i,o)::l,acc=>match yb X.P t i,(f o).cells with
  | some off,some cs=>match Nat.ble (off+cs.length) acc.length,Nat.beq cs.length (gj X.P (C1 X.P t i)) with
   | true,true=>CF X t f l (cY acc off cs)
   | _,_=>none
  | _,_=>none
def partsOf (f:Operand->AV) (z:Nat):Nat->List (Nat×Operand)->Option (List (List Cv))
 | _,[]=>some []
 | n,(i,o)::l=>match Nat.beq i n,(f o).cells,partsOf f z (n+1) l with
  | true,some cs,some r=>match Nat.beq cs.length z with | true=>some (cs::r) | false=>none
  | _,_,_=>none
def yh (f:Operand->AV):List Operand->Option (List Nat)
 | []=>some []
 | o::l=>match f o,yh f l with
  | .c (.pv v 0),some r=>some (v::r)
  | _,_=>none
def bytesOf:Vw->Option (List UInt8)
 | .w .byte xs=>some xs
 | .p .byte xs off len=>some (sub xs off len)
 | _=>none
def Bm (P:Program) (t:TypeId):Nat:=match Pk P t with | some e=>gj P e | none=>0
def isStr (P:Program) (t:TypeId):Bool:=match P.underlying t with | some .string=>true | _=>false
def HP (P:Program) (t:TypeId):Bool:=match P.underlying t with | some (.slice _)=>true | _=>false
def Vw.ty:Vw->Option Ty
 | .no=>none | .w τ _=>some τ | .p τ _ _ _=>some τ
def Lk.km (m:Lk) (P:Program) (t:TypeId):AV->Bool
 | .c (.s _)=>isStr P t
 | .c x=>match (m.vw x).ty with | some τ=>Nat.beq (sz τ) (Bm P t) | none=>false
 | _=>false
def KG:Ct->Cv->Bool
 | .b _,.b _=>true
 | .i k _,.i k' _=>Gj k k'
 | .s _,.s _=>true
 | _,_=>false
def nB:List Ct->List Cv->Bool
 | [],[]=>true
 | c::l,x::m=>KG c x&&nB l m
 | _,_=>false
def Ctx.FK (X:Ctx) (op:BinOp) (t:TypeId) (x y:AV):Out:=match x,y with
 | .c (.b a),y'=>match X.P.underlying t with | some .bool=>m7 op (.c (.b a)) y' | _=> .no
 | .a l,y'=>match lk X.eqs t,y' with
  | some ks,.a m=>match nB ks l&&nB ks m with | true=>m7 op (.a l) (.a m) | false=> .no
  | _,_=> .no
 | x',y'=>m7 op x' y'
def W3 (op:UnOp) (x:AV):Out:=match op,x with
 | .not,.c (.b b)=> .r0 (.c (.b (!b)))
 | .neg,.c (.i k n)=> .r0 (.c (.i k (k.wrap (0-n))))
 | _,_=> .no
def Ctx.Lj (X:Ctx) (m:Lk) (t u:TypeId) (x:AV):Out:=match X.P.underlying t,X.P.underlying u,x with
 | some _,some (.int k),.c (.i _ n)=> .r0 (.c (.i k (k.wrap n)))
 | some (.slice e),some .string,.c a=>match bytesOf (m.vw a),X.P.underlying e with
  | some xs,some (.int .u8)=> .r0 (.c (.s ⟨xs.toArray⟩))
  | _,_=> .no
 | _,_,_=> .no
def Pz (b:Bool):Option Nat->Out
 | some n=>match b with | true=> .r0 (.c (.i .i64 n)) | false=> .no
 | none=> .no
def Ctx.Jc (X:Ctx) (m:Lk) (t:TypeId):AV->Out
 | .c (.s a)=>match isStr X.P t with | true=> .r0 (.c (.i .i64 a.size)) | false=> .no
 | .c a=>Pz (HP X.P t) (m.vw a).len
 | _=> .no
def WW (f:Int->Int->Int) (x y:AV):Out:=match x,y with
 | .c (.i k a),.c (.i k' b)=>(match Gj k k' with | true=> .r0 (.c (.i k (f a b))) | false=> .no)
 | _,_=> .no
def Ctx.U4 (X:Ctx) (m:Lk) (d:Nat) (t u:TypeId) (x y:AV):Out:=match X.lT t,Nat.beq t u,x,y with
 | some τ,true,.c a,.c b=>m.append τ d a b
 | _,_,_,_=> .no
def Ctx.sG (X:Ctx) (m:Lk) (t:TypeId) (x:AV):Out:=match x,X.lT t with
 | .c (.sl r off len),some τ=>match m.r r with
  | some row=>match eG row.ow&&MR row.τ τ,row.τ.deep&&Nat.beq row.ow 5 with
   | true,false=> .w0 u8 { Dl.z with kn:=[r],rs:=[(r,some { row with xs:=row.xs.take off++(List.replicate len (cy row.τ)++row.xs.drop (off+len)) })] }
   | _,_=> .no
  | none=> .no
 | _,_=> .no
def Lk.dst (m:Lk):Cv->Option (Nat×Row×Nat×Nat)
 | .sw r=>match m.r r with | some row=>some (r,row,0,row.xs.length) | none=>none
 | .sl r off len=>match m.r r with | some row=>some (r,row,off,len) | none=>none
 | _=>none
def Sq:Ty->Bool
 | .int | .bool | .byte | .str=>true
 | _=>false
def Ctx.u5 (X:Ctx) (m:Lk) (t:TypeId) (x y:AV):Out:=match x,y,X.lT t with
 | .c a,.c b,some τ=>match m.dst a,(m.vw b).ct with
  | some (r,row,off,len),some (.l σ ys)=>match eG row.ow&&(MR row.τ τ&&Sq τ),AW σ row.τ (row.xs.take off) (ys.take (min ys.length len)) with
   | true,some zs=> .w0 (.c (.i .i64 (min ys.length len:Nat))) { Dl.z with kn:=[r],rs:=[(r,some { row with xs:=zs++row.xs.drop (off+min ys.length len) })] }
   | _,_=> .no
  | _,_=> .no
 | _,_,_=> .no
def cd (X:Ctx) (evp:List (Nat×Bool)->TypeId->Operand->AV) (m:Lk) (d:Nat) (ty:TypeId) (op:Op):Out :=
 let ev:=evp []
 match op with
 | .move x | .assign x=> .r0 (ev ty x)
 | .pick c a b=>match c with
  | .tmp t=>match ev ty c with
   | .c (.b x)=> .r0 (Xz x (evp [(t,true)] ty a) (evp [(t,false)] ty b))
   | _=> .no
  | _=> .no
 | .alloc t=>match X.zero t with
  | some cs=> .w0 (.c (.pv (1000+d) 0)) { Dl.z with kv:=[1000+d],vs:=[(1000+d,cs)] }
  | none=> .no
 | .box t x=>match (ev t x).cells with
  | some cs=>match Nat.beq cs.length (gj X.P t) with
   | true=> .w0 (.c (.pv (1000+d) 0)) { Dl.z with kv:=[1000+d],vs:=[(1000+d,sm (Dl.map { Dl.z with kv:=[1000+d] }) cs)] }
   | false=> .no
  | none=> .no
 | .build t parts=>match X.zero t,R7 X.P t with
  | some zs,true=>match CF X t (ev ty) parts.toList zs with
   | some cs=> .r0 (.a cs)
   | none=> .no
  | _,_=> .no
 | .buildSlice t n parts=>match X.lT t with
  | none=> .no
  | some τ=>match Nat.beq parts.size n&&Nat.ble (n*sz τ) 16777216,partsOf (ev ty) (sz τ) 0 parts.toList with
   | true,some pss=>match m.kq τ 0 pss with
    | some b=>match fC (d*64::(keys b.mv++keys b.sh)) with
     | true =>
      let δ:Dl:={ Dl.z with kr:=d*64::keys b.mv,rs:=gone b.mv++(m.share b.sh++[(d*64,some ⟨τ,b.ys,b.lv⟩)]) }
      match τ.isByte with
      | true=> .w b.ok (.c (.sw (d*64))) δ
      | false=> .w0 (.c (.sw (d*64))) δ
     | false=> .no
    | none=> .no
   | _,_=> .no
 | .load t x=>match ev ty x with
  | .c a=>match m.from a with
   | some cs=>match Nat.ble (gj X.P t) cs.length&&De X.P t with
    | true=> .r0 (U7 (AT X.P t) (cs.take (gj X.P t)))
    | false=> .no
   | none=> .no
  | _=> .no
 | .store t x v=>match ev ty x,(ev t v).cells with
  | .c a,some cs=>match Nat.beq cs.length (gj X.P t)&&Nat.ble 1 cs.length with
   | true=>m.store a cs
   | false=> .no
  | _,_=> .no
 | .nilCheck x=>match ev ty x with
  | .c (.pv v c)=> .r0 (.c (.pv v c)) | .c (.pe r e c)=> .r0 (.c (.pe r e c)) | .c (.pn r e c k d)=> .r0 (.c (.pn r e c k d))
  | _=> .no
 | .binOp op t x y _=>X.FK op t (ev t x) (ev t y)
 | .unOp op t x=>W3 op (ev t x)
 | .convert t u x=>X.Lj m t u (ev t x)
 | .makeFunc (.func f) first caps=>match first.size,yh (ev ty) caps.toList with
  | 0,some vs=> .r0 (.c (.fn f vs))
  | _,_=> .no
 | .makeSlice t n c=>match X.lT t,(ev ty n).int,(ev ty c).int with
  | some τ,some a,some b=> .w ((a==b)&&(decide (0<=a)&&Nat.ble a.toNat NM)) (.c (.sw (d*64)))
    { Dl.z with kr:=[d*64],rs:=[(d*64,some ⟨τ,List.replicate a.toNat (cy τ),5⟩)] }
  | _,_,_=> .no
 | .slice t x lo hi mx=>match mx,I0 (ev ty) lo,I0 (ev ty) hi with
  | none,some l,some h=>match m.km X.P t (ev t x) with
   | true=>m.o0 (ev t x) l h
   | false=> .no
  | _,_,_=> .no
 | .fieldAddr t x f=>match ev ty x,yb X.P t f,Nat.beq (gj X.P (C1 X.P t f)) 0 with
  | .c a,some n,false=>match JT a n with | .un=> .no | a=> .r0 (.c a)
  | _,_,_=> .no
 | .field t x f=>match ev t x,yb X.P t f with
  | .a l,some n=>match Nat.ble (n+gj X.P (C1 X.P t f)) l.length&&De X.P (C1 X.P t f) with
   | true=> .r0 (U7 (AT X.P (C1 X.P t f)) ((l.drop n).take (gj X.P (C1 X.P t f))))
   | false=> .no
  | _,_=> .no
 | .indexAddr t x i=>match ev t x,(ev ty i).int with
  | .c a,some n=>m.q7 a n (Bm X.P t)
  | _,_=> .no
 | .index t x i=>match ev t x,(ev ty i).int with
  | .c (.s a),some n=>match isStr X.P t with
   | true=> .r (aZ n a.size) (.c (.i .u8 (bt a n.toNat)))
   | false=> .no
  | _,_=> .no
 | .extract x i=>match ev ty x with
  | .t l=>match nth l i with | some (b,cs)=> .r0 (U7 b cs) | none=> .no
  | _=> .no
 | .call { callee:= .builtin b,args,argTypes }=>match b,args.toList,argTypes.toList with
  | .len,[x],[t]=>X.Jc m t (ev t x)
  | .append,[x,y],[t,u]=>X.U4 m d t u (ev t x) (ev t y)
  | .clear,[x],[t]=>X.sG m t (ev t x)
  | .copy,[x,y],[t,u]=>X.u5 m t (ev t x) (ev u y)
  | .max,[x,y],_=>WW max (ev ty x) (ev ty y)
  | .min,[x,y],_=>WW min (ev ty x) (ev ty y)
  | _,_,_=> .no
 | _=> .no
inductive AC
 | c (x:Ct) | a (l:List Ct) | p (k:Nat) | f (g:Nat) (ks:List Nat) | al (k c:Nat) | io (τ:Ty) (xs:List (El τ))
inductive Rc
 | c (x:Ct) | m (x:Ct) | al (p j e c:Nat) | aw (p j:Nat) | un
inductive RC
 | c (x:Rc) | a (l:List Rc) | t (l:List (Bool×List Rc)) | np (l:List Rc) | u
structure CR where
 res:RC
 vo:List (List Ct)
 io:List Ct
structure uw where
 am:List Nat
 vl:List (List Nat)
 rl:List (List Nat)
 dr:RC
def hd (l:List Nat):Nat:=match l with | []=>0 | x::_=>x
def ov {α:Type} (l:List (List α)):List α:=match l with | []=>[] | x::_=>x
def tl {α:Type} (l:List α):List α:=match l with | []=>[] | _::l=>l
def nz (v:Nat):Nat->List Nat->Option Nat
 | _,[]=>none
 | n,w::l=>match Nat.beq w v with | true=>some n | false=>nz v (n+1) l
def Nk (κ:List Nat) (v:Nat):Nat×List Nat:=match nz v 0 κ with
 | some k=>(k,κ)
 | none=>(κ.length,κ++[v])
def B0 (κ:List Nat):List Nat->List Nat×List Nat
 | []=>([],κ)
 | v::l=>match Nk κ v with
  | (k,κ1)=>match B0 κ1 l with
   | (ks,κ2)=>(k::ks,κ2)
def xI (r:Nat):Nat->List Cv->Option Nat
 | _,[]=>none
 | n,.sw r'::l=>match Nat.beq r' r with | true=>some n | false=>xI r (n+1) l
 | n,_::l=>xI r (n+1) l
structure AR where
 cn:List AC
 κ:List Nat
 gone:List Nat
 io:List Nat
 fz:List Nat
 ni:List Nat
 lM:Bool
def Lk.Ni (m:Lk) (x:Cv):Bool:=match x.row with
 | some r=>match m.r r with
  | some row=>(match row.ow with | 1=>true | 3=>true | _=>false)
  | none=>false
 | none=>true
def Lk.L3 (m:Lk):List Cv->Bool
 | []=>true
 | x::l=>match m.Ni x with | true=>m.L3 l | false=>false
def E8:List Cv->List Nat
 | []=>[]
 | x::l=>match x.row with | some r=>r::E8 l | none=>E8 l
def Lk.owned (m:Lk) (w:Nat):List Cv->Option (List Nat)
 | []=>some []
 | .sw r::l=>match m.r r,m.owned w l with
  | some row,some k=>match oq w row.ow with | true=>some (r::k) | false=>none
  | _,_=>none
 | .nl _::l | .b _::l | .i .. ::l | .s _::l=>m.owned w l
 | _=>none
def sP (x:AC) (g:List Nat) (io fz ni:List Nat) (b:Bool) (q:Option AR):Option AR:=match q with
 | some q=>some ⟨x::q.cn,q.κ,g++q.gone,io++q.io,fz++q.fz,ni++q.ni,match b with | true=>q.lM | false=>false⟩
 | none=>none
def mU:Ct->Ct
 | .l .. => .u
 | x=>x
def H2:AC->AC
 | .a l=> .a (sm mU l)
 | .c x=> .c (mU x)
 | x=>x
def Lk.O9 (m:Lk) (w:Nat) (cs:List Cv) (x:AC) (q:Option AR):Option AR:=match w with
 | 0=>sP x [] [] [] (E8 cs) (m.L3 cs) q
 | 7=>sP (H2 x) [] [] [] [] true q
 | w=>match sf w,m.owned w cs with
  | true,some g=>match w with
   | 3=>sP x [] [] g [] true q
   | _=>sP x g [] [] [] false q
  | _,_=>none
def Lk.X9 (m:Lk) (x:Cv) (q:Option AR):Option AR:=match x with
 | .sw r=>match m.r r with
  | some row=>match Nat.beq row.ow 5 with
   | true=>sP (.io row.τ row.xs) [] [r] [] [] false q
   | false=>none
  | none=>none
 | _=>none
def Lk.X5 (m:Lk) (x:Cv) (κ:List Nat) (q:Option AR):Option AR:=match x,κ with
 | .sw r,v::_=>match m.v v with
  | some cs=>match xI r 0 cs with
   | some c=>sP (.al 0 c) [] [] [] [] false q
   | none=>none
  | none=>none
 | _,_=>none
def Lk.VV (m:Lk) (w:Nat) (x:Cv) (κ:List Nat) (q:Option AR):Option AR:=match w with
 | 9=>m.X9 x q
 | 8=>m.X5 x κ q
 | w=>match m.ct x with
  | some y=>m.O9 w [x] (.c y) q
  | none=>none
def Lk.args (m:Lk):List Nat->List AV->List Nat->Option AR
 | _,[],κ=>some ⟨[],κ,[],[],[],[],true⟩
 | am,v::l,κ=>match v with
  | .c (.pv v 0)=>match Nk κ v with
   | (k,κ1)=>sP (.p k) [] [] [] [] false (m.args (tl am) l κ1)
  | .c (.fn f caps)=>match B0 κ caps with
   | (ks,κ1)=>sP (.f f ks) [] [] [] [] false (m.args (tl am) l κ1)
  | .a cs=>match Nat.ble cs.length 63,m.iJ cs with
   | true,some ys=>m.O9 (hd am) cs (.a ys) (m.args (tl am) l κ)
   | _,_=>none
  | .c x=>m.VV (hd am) x κ (m.args (tl am) l κ)
  | _=>none
def Lk.uT (m:Lk):List (List Nat)->List Nat->Option (List (List Ct))
 | _,[]=>some []
 | vl,v::l=>match m.v v with
  | some cs=>match Nat.ble cs.length 63,m.iJ cs,m.uT (tl vl) l with
   | true,some a,some b=>some (a::b)
   | _,_,_=>none
  | none=>none
def kB:Ct->Option Cv
 | .u=>some .un | .b x=>some (.b x) | .i k n=>some (.i k n) | .s x=>some (.s x) | .l .. =>none
def Lk.kI (m:Lk):List Nat->List Cv->Option (List Nat×List Nat)
 | _,[]=>some ([],[])
 | ms,x::l=>match m.kI (tl ms) l with
  | none=>none
  | some (k,b)=>match hd ms with
   | 0=>match x.row with | some r=>some (k,r::b) | none=>some (k,b)
   | 1=>match x.row with | some r=>some (k,r::b) | none=>some (k,b)
   | w=>match x with
    | .sw r=>match m.r r with
     | some row=>match sf w&&zk r,oq w row.ow with | true,true=>some (r::k,b) | _,_=>none
     | none=>none
    | .nl _=>match sf w with | true=>some (k,b) | false=>none
    | _=>none
def Lk.eQ (m:Lk):List (List Nat)->List Nat->Option (List Nat×List Nat)
 | _,[]=>some ([],[])
 | vl,v::l=>match m.v v with
  | some cs=>match m.kI (ov vl) cs,m.eQ (tl vl) l with
   | some (a,b),some (a',b')=>some (a++a',b++b')
   | _,_=>none
  | none=>none
def Lk.te (m:Lk) (g:uw) (ar:AR):Option (List Nat×List Nat):=match m.eQ g.vl ar.κ with
 | none=>none
 | some (ow,b) =>
  match fC (ar.gone++(ow++ar.io)),jG ar.fz (ar.gone++(ow++ar.io)),jG ar.ni (ar.gone++(ow++ar.io)),jG b (ar.gone++(ow++ar.io)) with
  | true,true,true,true=>some (ow,b)
  | _,_,_,_=>none
def eC (f:Cv->Cv) (v:Nat):Nat->List Nat->List Cv->List Ct->Option (List Cv×List (Nat×Row))
 | _,_,[],[]=>some ([],[])
 | j,ms,c::cs,y::ys=>match eC f v (j+1) (tl ms) cs ys with
  | none=>none
  | some (cs',rs')=>match hd ms with
   | 0=>match kB y with | some x=>some (x::cs',rs') | none=>none
   | 1=>some (f c::cs',rs')
   | w=>match y with
    | .l τ xs=>match c with
     | .sw r=>some (.sw r::cs',(r,⟨τ,xs,w⟩)::rs')
     | _=>some (.sw (1000000+v*64+j)::cs',(1000000+v*64+j,⟨τ,xs,w⟩)::rs')
    | _=>none
 | _,_,_,_=>none
def Lk.gi (m:Lk) (f:Cv->Cv):List (List Nat)->List Nat->List (List Ct)->Option (List (Nat×List Cv)×List (Nat×Row))
 | _,[],[]=>some ([],[])
 | vl,v::κ,l::vo=>match m.v v with
  | some cs=>match eC f v 0 (ov vl) cs l,m.gi f (tl vl) κ vo with
   | some (a,r),some (b,q)=>some ((v,a)::b,r++q)
   | _,_=>none
  | none=>none
 | _,_,_=>none
def Lk.nI (m:Lk):List Nat->List Ct->Option (List (Nat×Row))
 | [],[]=>some []
 | r::l,.l τ xs::y=>match m.r r,m.nI l y with
  | some row,some q=>match MR row.τ τ with
   | true=>some ((r,⟨τ,xs,row.ow⟩)::q)
   | false=>none
  | _,_=>none
 | _,_=>none
def RS (as:List AV) (p j:Nat):Option Cv:=match nth as p with
 | some (.c x)=>match j with | 0=>some x | _=>none
 | some (.a l)=>nth l j
 | _=>none
def qa (as:List AV):Rc->Option Cv
 | .aw p j=>RS as p j
 | .al p j e c=>match RS as p j with
  | some (.sw r)=>some (.nw r e c)
  | some (.sl r off _)=>some (.nw r (off+e) c)
  | _=>some .un
 | .un=>some .un
 | .c _=>none
 | .m _=>none
def w5 (w:Nat):Nat:=match w with | 6=>5 | w=>w
def kV (f:Cv->Cv) (as:List AV) (lM:Bool):Nat->List Nat->List Rc->Option (List Cv×List (Nat×Row))
 | _,_,[]=>some ([],[])
 | k,ms,y::ys=>match kV f as lM (k+1) (tl ms) ys with
  | none=>none
  | some (cs,rs)=>match y with
   | .m (.l τ xs)=>(match lM with
    | true=>some (.sw k::cs,(k,⟨τ,xs,1⟩)::rs)
    | false=>some (.un::cs,rs))
   | .m y=>match kB y with | some x=>some (x::cs,rs) | none=>none
   | .c (.l τ xs)=>some (.sw k::cs,(k,⟨τ,xs,w5 (hd ms)⟩)::rs)
   | .c y=>match kB y with | some x=>some (x::cs,rs) | none=>none
   | y=>match qa as y with | some x=>some (f x::cs,rs) | none=>none
def r7 (f:Cv->Cv) (as:List AV) (lM:Bool):Nat->List (List Nat)->List (Bool×List Rc)->Option (List (Bool×List Cv)×List (Nat×Row))
 | _,_,[]=>some ([],[])
 | k,ms,(b,l)::ys=>match kV f as lM k (ov ms) l,r7 f as lM (k+l.length) (tl ms) ys with
  | some (cs,rs),some (ts,rs')=>some ((b,cs)::ts,rs++rs')
  | _,_=>none
def xD (f:Cv->Cv) (as:List AV) (lM:Bool) (rl:List (List Nat)) (d:Nat):RC->Option (AV×List (Nat×Row)×List (Nat×List Cv))
 | .u=>some (.t [],[],[])
 | .c x=>match kV f as lM (d*64) (ov rl) [x] with
  | some ([c],rs)=>some (.c c,rs,[])
  | _=>none
 | .a l=>match kV f as lM (d*64) (ov rl) l with
  | some (cs,rs)=>some (.a cs,rs,[])
  | none=>none
 | .t l=>match r7 f as lM (d*64) rl l with
  | some (ts,rs)=>some (.t ts,rs,[])
  | none=>none
 | .np l=>match kV f as lM (d*64) (ov rl) l with
  | some (cs,rs)=>some (.c (.pv (1000+d) 0),rs,[(1000+d,cs)])
  | none=>none
def ML:List Rc->Nat
 | []=>0
 | _::l=>ML l+1
def Mp:List (Bool×List Rc)->Nat
 | []=>0
 | (_,l)::m=>ML l+Mp m
def VC:Nat->Nat->List Nat
 | _,0=>[]
 | k,n+1=>k::VC (k+1) n
def RC.keys (d:Nat):RC->List Nat
 | .u=>[] | .c _=>[d*64] | .a l=>VC (d*64) (ML l) | .t l=>VC (d*64) (Mp l) | .np l=>VC (d*64) (ML l)
def homes (v:Nat):Nat->List Cv->List Nat
 | _,[]=>[]
 | j,_::l=>(1000000+v*64+j)::homes v (j+1) l
def Lk.lI (m:Lk):List Nat->List Nat
 | []=>[]
 | v::l=>(match m.v v with | some cs=>homes v 0 cs | none=>[])++m.lI l
def mZ:List (Nat×Row)->List (Nat×Option Row)
 | []=>[]
 | (k,r)::l=>(k,some r)::mZ l
def BX:List Nat->List (Nat×Option Row)
 | []=>[]
 | k::l=>(k,none)::BX l
def Lk.TO (m:Lk):List Nat->List (Nat×Option Row)
 | []=>[]
 | r::l=>match m.r r with | some row=>(r,some { row with ow:=3 })::m.TO l | none=>m.TO l
def RC.kv (d:Nat):RC->List Nat
 | .np _=>[1000+d]
 | _=>[]
def Lk.WX (m:Lk) (ar:AR) (res:RC) (ow:List Nat) (d:Nat):Dl:=⟨[],ar.gone++(ow++(res.keys d++m.lI ar.κ)),ar.io,[],res.kv d,[],[]⟩
def sJ (n:Nat):List Nat->Bool
 | []=>true
 | x::l=>Nat.blt x n&&sJ n l
def Lk.after (m:Lk) (g:uw) (as:List AV) (ar:AR) (cr:CR) (ow:List Nat) (d:Nat):Option (AV×Dl) :=
  match m.gi (m.WX ar cr.res ow d).map g.vl ar.κ cr.vo,m.nI ar.io cr.io,xD (m.WX ar cr.res ow d).map as ar.lM g.rl d cr.res with
   | some (vs,r1),some r2,some (v,r3,vn) =>
    match fC (ar.gone++(keys r1++(keys r2++keys r3)))&&sJ 100000 (cr.res.keys d),jG ar.fz (keys r1++(keys r2++keys r3)) with
    | true,true=>some (v,{ m.WX ar cr.res ow d with vs:=vs++vn,rs:=BX ar.gone++(m.TO ar.fz++(mZ r1++(mZ r2++mZ r3))) })
    | _,_=>none
   | _,_,_=>none
abbrev Ac (R:Type):=List AC->List (List Ct)->(CR->Option R)->Option R
structure Env (R:Type) where
 sg:Nat->Option uw
 fn:Nat->Ac R
inductive Ex | normal | exit (id:Nat) | ret
def yE (ops:Array Oper) (s:St):Option (Nat×Bool)->Option (List (Nat×Bool)×Bool)
 | none=>some ([],true)
 | some (j,w)=>match ops[j]? with
  | none=>none
  | some o=>match o.dst with
   | none=>none
   | some t=>match s.get t with
    | .c (.b x)=>some ([(t,w)],match w with | true=>x | false=> !x)
    | .g p q (.c (.b x))=>some (p++[(t,w)],q&&(match w with | true=>x | false=> !x))
    | _=>none
def vj:AV->AV
 | .g .. => .c .un
 | v=>v
def gd (p:List (Nat×Bool)) (q:Bool) (v:AV):AV:=match p with | []=>vj v | _=> .g p q v
def ck (p:List (Nat×Bool)) (q c:Bool):Bool:=match p with | []=>c | _=> !q||c
def aK {R:Type} (c:Bool) (k:Option R):Option R:=bif c then k else none
def Of (q:Bool):Ct->Ct->Option Ct
 | .u,.u=>some .u
 | .b x,.b y=>some (.b (bif q then x else y))
 | .i k x,.i k' y=>match Gj k k' with | true=>some (.i k (bif q then x else y)) | false=>none
 | .s x,.s y=>some (.s (bif q then x else y))
 | .l τ x,.l σ y=>match AW σ τ [] y with | some z=>some (.l τ (bif q then x else z)) | none=>none
 | _,_=>none
def Hk (q:Bool):List Ct->List Ct->Option (List Ct)
 | [],[]=>some []
 | x::l,y::m=>match Of q x y,Hk q l m with | some a,some b=>some (a::b) | _,_=>none
 | _,_=>none
def Lp (q:Bool):List (List Ct)->List (List Ct)->Option (List (List Ct))
 | [],[]=>some []
 | x::l,y::m=>match Hk q x y,Lp q l m with | some a,some b=>some (a::b) | _,_=>none
 | _,_=>none
def K6 (q:Bool):Rc->Rc->Option Rc
 | .c x,.c y=>match Of q x y with | some z=>some (.c z) | none=>none
 | .m x,.m y=>match Of q x y with | some z=>some (.m z) | none=>none
 | .un,.un=>some .un
 | _,_=>none
def Bg (q:Bool):List Rc->List Rc->Option (List Rc)
 | [],[]=>some []
 | x::l,y::m=>match K6 q x y,Bg q l m with | some a,some b=>some (a::b) | _,_=>none
 | _,_=>none
def EO (q:Bool):List (Bool×List Rc)->List (Bool×List Rc)->Option (List (Bool×List Rc))
 | [],[]=>some []
 | (b,x)::l,(c,y)::m=>match (match b,c with | true,true | false,false=>true | _,_=>false),Bg q x y,EO q l m with | true,some u,some v=>some ((b,u)::v) | _,_,_=>none
 | _,_=>none
def OV (q:Bool):RC->RC->Option RC
 | .u,.u=>some .u
 | .c x,.c y=>match K6 q x y with | some z=>some (.c z) | none=>none
 | .a x,.a y=>match Bg q x y with | some z=>some (.a z) | none=>none
 | .t x,.t y=>match EO q x y with | some z=>some (.t z) | none=>none
 | _,_=>none
def Jz (q:Bool) (x y:CR):Option CR:=match OV q x.res y.res,Lp q x.vo y.vo,Hk q x.io y.io with
 | some a,some b,some c=>some ⟨a,b,c⟩
 | _,_,_=>none
abbrev Em {R:Type} (p:List (Nat×Bool)) (q:Bool) (f:(CR->Option R)->Option R) (d:CR) (k:CR->Option R):Option R:=match p with
 | []=>f k
 | _=>f fun cr=>match Jz q cr d with | some c=>k c | none=>none
def Lk.Fu (m:Lk):List Nat->List Ct
 | []=>[]
 | r::l=>match m.r r with | some row=> .l row.τ row.xs::m.Fu l | none=>m.Fu l
def Cv.rk (x:Cv):List Nat:=match x.row with | some r=>[r] | none=>[]
def Cv.vk:Cv->List Nat
 | .pv v _=>[v] | .fn _ l=>l | _=>[]
def vA:List Cv->List Nat
 | []=>[]
 | x::l=>x.rk++vA l
def vT:List Cv->List Nat
 | []=>[]
 | x::l=>x.vk++vT l
def PR:List (Bool×List Cv)->List Cv
 | []=>[]
 | (_,l)::m=>l++PR m
def AV.Du:AV->List Cv
 | .c x=>[x] | .a l=>l | .t l=>PR l | .g _ _ v=>v.Du
structure Fp where
 d:Option Nat
 rt:List Nat
 wt:List Nat
 rr:List Nat
 rv:List Nat
 wr:List Nat
 wv:List Nat
 pm:List Nat
 kw:List Nat
def opT:List Operand->List Nat
 | []=>[]
 | .tmp t::l=>t::opT l
 | _::l=>opT l
def Jn:List AV->List Nat
 | []=>[]
 | v::l=>vA v.Du++Jn l
def IT:List AV->List Nat
 | []=>[]
 | v::l=>vT v.Du++IT l
def Lk.rowsOf (m:Lk):List Nat->List Nat
 | []=>[]
 | v::l=>(match m.v v with | some cs=>vA cs | none=>[])++m.rowsOf l
def vcs:List (Nat×List Cv)->List Cv
 | []=>[]
 | (_,l)::m=>l++vcs m
def VS (ops:Array Oper):Option (Nat×Bool)->List Nat
 | none=>[]
 | some (j,_)=>match ops[j]? with | some o=>(match o.dst with | some t=>[t] | none=>[]) | none=>[]
def VA (as:List AV):List Nat:=IT as
def Vd (s:St) (as:List AV):List Nat:=Jn as++s.lk.rowsOf (IT as)
def RR (ops:Array Oper) (o:Oper):List Nat:=opT o.op.operands.toList++VS ops o.guard
def Co {α:Type} (ks:List Nat):List (Nat×α)->List (Nat×α)
 | []=>[]
 | (k,v)::l=>match cp k ks with | true=>(k,v)::Co ks l | false=>Co ks l
def XL:Op->Bool
 | .move _=>false
 | .assign _=>false
 | _=>true
def HI (ops:Array Oper) (s:St) (o:Oper):List AV:=sm s.get (RR ops o)
def wN (ops:Array Oper) (s:St) (o:Oper):List AV:=match XL o.op with | true=>HI ops s o | false=>[]
def St.cut (s:St) (ops:Array Oper) (o:Oper):St:=⟨Co (RR ops o) s.tm,Co (VA (wN ops s o)) s.vs,Co (Vd s (wN ops s o)) s.rs⟩
def Lk.varsOf (m:Lk):List Nat->List Nat
 | []=>[]
 | v::l=>(match m.v v with | some cs=>vT cs | none=>[])++m.varsOf l
def Pf (R V:List Nat):List (Nat×AV)->List Nat
 | []=>[]
 | (t,v)::l=>match sb (vA v.Du) R,sb (vT v.Du) V with | false,false=>Pf R V l | _,_=>t::Pf R V l
def Oo (R V:List Nat):List (Nat×List Cv)->List Nat
 | []=>[]
 | (k,cs)::l=>match sb (vA cs) R,sb (vT cs) V with | false,false=>Oo R V l | _,_=>k::Oo R V l
def Dl.kj (δ:Dl):List Nat:=keys δ.mv++(δ.kr++(δ.ke++δ.kn))
def SE:List (Nat×(Nat×Nat×Nat))->List Nat
 | []=>[]
 | (_,(d,_))::l=>d::SE l
def ji (ops:Array Oper) (s:St) (o:Oper) (v:AV) (δ:Dl):Fp :=
 ⟨o.dst,RR ops o,(match δ.quiet with | true=>[] | false=>Pf δ.kj δ.kv s.tm),
  Jn (HI ops s o)++(Vd s (wN ops s o)++(vA v.Du++vA (vcs δ.vs))),VA (wN ops s o),
  SE δ.mv++(δ.kj++keys δ.rs),δ.kv++((match δ.quiet with | true=>[] | false=>Oo δ.kj δ.kv s.vs)++keys δ.vs),
  IT (HI ops s o)++(s.lk.varsOf (IT (wN ops s o))++(vT v.Du++vT (vcs δ.vs))),δ.kv⟩
def KW (a:Option Nat) (l:List Nat):Bool:=match a with | some t=>(match cp t l with | true=>false | false=>true) | none=>true
def apart (a b:Fp):Bool :=
 jG a.wt b.rt&&(KW a.d b.rt&&(KW b.d a.rt&&((match a.d,b.d with | some x,some y=>(match Nat.beq x y with | true=>false | false=>true) | _,_=>true) &&
 (jG a.wr b.rr&&(jG a.wr b.wr&&(jG a.rr b.wr&&(jG a.wv b.rv&&(jG a.wv b.wv&&(jG a.rv b.wv&&(jG a.kw b.pm&&jG a.pm b.kw))))))))))
def PZ:Ct->Bool
 | .l _ []=>true | .l .. =>false | _=>true
def p4:List Rc->Bool
 | []=>true
 | .c x::l | .m x::l=>PZ x&&p4 l
 | _=>false
def F0:List (Bool×List Rc)->Bool
 | []=>true
 | (_,l)::m=>p4 l&&F0 m
def PV:RC->Bool
 | .u=>true | .c x=>p4 [x] | .a l=>p4 l | .t l=>F0 l | .np _=>false
def v7:List (List Nat)->Bool
 | []=>true
 | l::m=>le1 l&&v7 m
 where le1:List Nat->Bool
 | []=>true
 | x::l=>Nat.ble x 1&&le1 l
def Bk (p:List (Nat×Bool)) (g:uw) (ar:AR) (v:AV):Bool:=match p with
 | []=>true
 | _=>v7 g.vl&&(PV g.dr&&(match ar.gone,ar.io,ar.fz,v with | [],[],[],.c (.pv ..)=>false | [],[],[],_=>true | _,_,_,_=>false))
def BV {R:Type} (X:Ctx) (E:Env R) (ops:Array Oper) (s:St) (o:Oper) (K:List (Nat×Bool)->Bool->AV->Dl->Option R):Option R :=
 match yE ops s o.guard with
 | none=>none
 | some (p,q) =>
  let evp:=fun (e:List (Nat×Bool))=>X.yj s (p++e)
  match o.op with
  | .call { callee:= .value f,args,.. }=>match evp [] 0 f with
   | .c (.fn g caps)=>match E.sg g with
    | none=>none
    | some sig =>
     let jj:=sm (evp [] 0) args.toList++sm (fun v=>AV.c (.pv v 0)) caps
     match s.lk.args sig.am jj [] with
     | none=>none
     | some ar=>match s.lk.uT sig.vl ar.κ,s.lk.te sig ar,Nat.ble jj.length 1000&&Nat.ble ar.κ.length 1000 with
      | some cP,some (ow,_),true=>Em p q (E.fn g ar.cn cP) ⟨sig.dr,cP,s.lk.Fu ar.io⟩ fun cr =>
       match s.lk.after sig jj ar cr ow (match o.dst with | some d=>d | none=>0) with
       | none=>none
       | some (v,δ)=>match Bk p sig ar v with
        | true=>K p q v δ
        | false=>none
      | _,_,_=>none
   | _=>none
  | op=>match cd X evp s.lk (match o.dst with | some d=>d | none=>0) o.type op with
   | .no=>none
   | .r0 v=>K p q v Dl.z
   | .r c v=>aK (ck p q c) (K p q v Dl.z)
   | .w0 v δ=>match p with
    | []=>K p q v δ
    | _=>none
   | .w c v δ=>match p with
    | []=>aK c (K p q v δ)
    | _=>none
def gF {R:Type} (X:Ctx) (E:Env R) (ops:Array Oper) (draw:Bool):List Oper->St->List Fp->(St->List Fp->Option R)->Option R
 | [],s,fp,K=>K s fp
 | o::l,s,fp,K=>match draw with
  | false=>BV X E ops s o fun p q v δ=>gF X E ops draw l ((s.app δ).put o.dst (gd p q v)) fp K
  | true=>BV X E ops (s.cut ops o) o fun p q v δ=>gF X E ops draw l ((s.app δ).put o.dst (gd p q v)) (fp++[ji ops s o v δ]) K
def lJ:List Oper->List Nat
 | []=>[]
 | o::l=>match o.dst with | some d=>d::lJ l | none=>lJ l
def Sm (x:Nat) (l:List Nat):List Nat:=match cp x l with | true=>l | false=>x::l
def Lg:List Nat->List Nat->List Nat
 | [],m=>m
 | x::l,m=>Sm x (Lg l m)
def Fq (e:Edge):Bool:=match e.ground with | .textOnly _=>false | .gcOnly _=>false | _=>true
def jx:List Edge->List Nat
 | []=>[]
 | e::l=>match Fq e with | true=>e.on::jx l | false=>jx l
def lP (l:List (List Nat)) (j:Nat):List Nat:=match nth l j with | some x=>x | none=>[]
def CG (acc:List (List Nat)):List Nat->List Nat
 | []=>[]
 | e::l=>Sm e (Lg (lP acc e) (CG acc l))
def lR:List (List Nat)->List Oper->List (List Nat)
 | acc,[]=>acc
 | acc,o::l=>lR (acc++[CG acc (jx o.after.toList)]) l
def LX:Nat->List Oper->Bool
 | _,[]=>true
 | i,o::l=>(match o.guard with | some (j,_)=>Nat.blt j i | none=>true)&&LX (i+1) l
def oF:Nat->List Oper->Bool
 | _,[]=>true
 | j,o::l=>sJ j (jx o.after.toList)&&oF (j+1) l
def sQ (A:List (List Nat)):Nat->List Oper->Bool
 | _,[]=>true
 | i,o::l=>(match o.guard with | some (j,_)=>cp j (lP A i) | none=>true)&&sQ A (i+1) l
def gH (A:List (List Nat)):Nat->List Fp->List Fp->Bool
 | _,_,[]=>true
 | j,done,x::l=>go (lP A j) 0 done x&&gH A (j+1) (done++[x]) l
 where go (n:List Nat):Nat->List Fp->Fp->Bool
 | _,[],_=>true
 | i,y::m,x=>(match cp i n with | true=>true | false=>apart y x)&&go n (i+1) m x
def jb:List (Nat×AV)->List (Nat×AV)
 | []=>[]
 | (k,v)::l=>(k,vj v)::jb l
def xt {R:Type} (X:Ctx) (E:Env R) (ops:Array Oper) (draw:Bool) (s:St) (K:St->Option R):Option R :=
 match fC (lJ ops.toList)&&(sJ X.nt (lJ ops.toList)&&(Nat.ble X.nt 1500&&LX 0 ops.toList)) with
 | false=>none
 | true=>gF X E ops draw ops.toList s [] fun s' fp=>match draw with
  | false=>K ⟨jb s'.tm,s'.vs,s'.rs⟩
  | true=>match oF 0 ops.toList&&(sQ (lR [] ops.toList) 0 ops.toList&&gH (lR [] ops.toList) 0 [] fp) with
   | true=>K ⟨jb s'.tm,s'.vs,s'.rs⟩
   | false=>none
inductive nk | b (x:Bool) | i (k:IntKind) (n:Int) | s (x:ByteArray) | l (τ:Ty) (xs:List (El τ)) | n (x:Nat)
inductive Sh | un | b | i (k:IntKind) | s | nl (τ:Ty) | sw (r:Nat) | sl (r:Nat) | nw (r c:Nat) | ns (r c:Nat) | pv (v c:Nat) | pe (r c:Nat) | pn (r c d:Nat) | fn (f:Nat) (caps:List Nat)
inductive OO | c (x:Sh) | a (l:List Sh) | t (l:List (Bool×List Sh))
structure Sk where
 tm:List (Nat×OO)
 vs:List (Nat×List Sh)
 rs:List (Nat×(Ty×Nat))
def WZ:Cv->Sh×List nk
 | .un=>(.un,[]) | .b x=>(.b,[.b x]) | .i k n=>(.i k,[.i k n]) | .s x=>(.s,[.s x]) | .nl τ=>(.nl τ,[])
 | .sw r=>(.sw r,[]) | .sl r a b=>(.sl r,[.n a,.n b]) | .nw r e c=>(.nw r c,[.n e]) | .ns r e c a b=>(.ns r c,[.n e,.n a,.n b])
 | .pv v c=>(.pv v c,[]) | .pe r e c=>(.pe r c,[.n e]) | .pn r e c k d=>(.pn r c d,[.n e,.n k]) | .fn f caps=>(.fn f caps,[])
def Ri:List Cv->List Sh×List nk
 | []=>([],[])
 | x::l=>let (a,v):=WZ x
  let (b,w):=Ri l
  (a::b,v++w)
def TP:List (Bool×List Cv)->List (Bool×List Sh)×List nk
 | []=>([],[])
 | (t,x)::l=>let (a,v):=Ri x
  let (b,w):=TP l
  ((t,a)::b,v++w)
def JK:AV->OO×List nk
 | .c x=>let (a,v):=WZ x
  (.c a,v)
 | .a l=>let (a,v):=Ri l
  (.a a,v)
 | .t l=>let (a,v):=TP l
  (.t a,v)
 | .g .. =>(.c .un,[])
def G6:List (Nat×AV)->List (Nat×OO)×List nk
 | []=>([],[])
 | (k,x)::l=>let (a,v):=JK x
  let (b,w):=G6 l
  ((k,a)::b,v++w)
def Ht:List (Nat×List Cv)->List (Nat×List Sh)×List nk
 | []=>([],[])
 | (k,x)::l=>let (a,v):=Ri x
  let (b,w):=Ht l
  ((k,a)::b,v++w)
def vB:List (Nat×Row)->List (Nat×(Ty×Nat))×List nk
 | []=>([],[])
 | (k,x)::l=>let (b,w):=vB l
  ((k,(x.τ,x.ow))::b,.l x.τ x.xs::w)
def flat (s:St):Sk×List nk :=
 let (a,v):=G6 s.tm
 let (b,w):=Ht s.vs
 let (c,u):=vB s.rs
 (⟨a,b,c⟩,v++(w++u))
def ZJ:Sh->List nk->Option (Cv×List nk)
 | .un,l=>some (.un,l) | .b,.b x::l=>some (.b x,l) | .i _,.i k n::l=>some (.i k n,l) | .s,.s x::l=>some (.s x,l) | .nl τ,l=>some (.nl τ,l)
 | .sw r,l=>some (.sw r,l) | .sl r,.n a:: .n b::l=>some (.sl r a b,l) | .nw r c,.n e::l=>some (.nw r e c,l)
 | .ns r c,.n e:: .n a:: .n b::l=>some (.ns r e c a b,l) | .pv v c,l=>some (.pv v c,l) | .pe r c,.n e::l=>some (.pe r e c,l)
 | .pn r c d,.n e:: .n k::l=>some (.pn r e c k d,l) | .fn f caps,l=>some (.fn f caps,l)
 | _,_=>none
def W2:List Sh->List nk->Option (List Cv×List nk)
 | [],l=>some ([],l)
 | a::b,l=>match ZJ a l with
  | some (x,l)=>match W2 b l with | some (y,l)=>some (x::y,l) | none=>none
  | none=>none
def ZK:List (Bool×List Sh)->List nk->Option (List (Bool×List Cv)×List nk)
 | [],l=>some ([],l)
 | (t,a)::b,l=>match W2 a l with
  | some (x,l)=>match ZK b l with | some (y,l)=>some ((t,x)::y,l) | none=>none
  | none=>none
def XF:OO->List nk->Option (AV×List nk)
 | .c a,l=>match ZJ a l with | some (x,l)=>some (.c x,l) | none=>none
 | .a a,l=>match W2 a l with | some (x,l)=>some (.a x,l) | none=>none
 | .t a,l=>match ZK a l with | some (x,l)=>some (.t x,l) | none=>none
def RL:List (Nat×OO)->List nk->Option (List (Nat×AV)×List nk)
 | [],l=>some ([],l)
 | (k,a)::b,l=>match XF a l with
  | some (x,l)=>match RL b l with | some (y,l)=>some ((k,x)::y,l) | none=>none
  | none=>none
def RY:List (Nat×List Sh)->List nk->Option (List (Nat×List Cv)×List nk)
 | [],l=>some ([],l)
 | (k,a)::b,l=>match W2 a l with
  | some (x,l)=>match RY b l with | some (y,l)=>some ((k,x)::y,l) | none=>none
  | none=>none
def R6:List (Nat×(Ty×Nat))->List nk->Option (List (Nat×Row))
 | [],[]=>some []
 | (k,(_,ow))::b,.l τ xs::l=>match R6 b l with | some y=>some ((k,⟨τ,xs,ow⟩)::y) | none=>none
 | _,_=>none
def B2 (k:Sk) (l:List nk):Option St :=
 match RL k.tm l with
 | none=>none
 | some (a,l)=>match RY k.vs l with
  | none=>none
  | some (b,l)=>match R6 k.rs l with
   | none=>none
   | some c=>some ⟨a,b,c⟩
def F4:List Nat->List Nat->Bool
 | [],[]=>true
 | a::l,b::m=>Nat.beq a b&&F4 l m
 | _,_=>false
def SH:Sh->Sh->Bool
 | .un,.un | .b,.b | .s,.s=>true
 | .i a,.i b=>Gj a b
 | .nl a,.nl b=>MR a b
 | .sw a,.sw b | .sl a,.sl b=>Nat.beq a b
 | .nw a b,.nw c d | .ns a b,.ns c d | .pv a b,.pv c d | .pe a b,.pe c d=>Nat.beq a c&&Nat.beq b d
 | .pn a b c,.pn d e f=>Nat.beq a d&&(Nat.beq b e&&Nat.beq c f)
 | .fn a l,.fn b m=>Nat.beq a b&&F4 l m
 | _,_=>false
def TU:List Sh->List Sh->Bool
 | [],[]=>true
 | a::l,b::m=>SH a b&&TU l m
 | _,_=>false
def MS:List (Bool×List Sh)->List (Bool×List Sh)->Bool
 | [],[]=>true
 | (x,a)::l,(y,b)::m=>(match x,y with | true,true | false,false=>true | _,_=>false)&&(TU a b&&MS l m)
 | _,_=>false
def P0:OO->OO->Bool
 | .c a,.c b=>SH a b
 | .a a,.a b=>TU a b
 | .t a,.t b=>MS a b
 | _,_=>false
def Ma:List (Nat×OO)->List (Nat×OO)->Bool
 | [],[]=>true
 | (x,a)::l,(y,b)::m=>Nat.beq x y&&(P0 a b&&Ma l m)
 | _,_=>false
def Ml:List (Nat×List Sh)->List (Nat×List Sh)->Bool
 | [],[]=>true
 | (x,a)::l,(y,b)::m=>Nat.beq x y&&(TU a b&&Ml l m)
 | _,_=>false
def yG:List (Nat×(Ty×Nat))->List (Nat×(Ty×Nat))->Bool
 | [],[]=>true
 | (x,(a,b))::l,(y,(c,d))::m=>Nat.beq x y&&(MR a c&&((oq d b&&(match d with | 1=>Nat.beq b 1||(Nat.blt x 100000||Nat.ble 400000 x) | _=>true))&&yG l m))
 | _,_=>false
def HY (a b:Sk):Bool:=Ma a.tm b.tm&&(Ml a.vs b.vs&&yG a.rs b.rs)
def oM:List Cv->List Nat->List Nat
 | [],acc=>acc
 | x::l,acc=>match x.row with
  | some r=>match nz r 0 acc with
   | some _=>oM l acc
   | none=>oM l (acc++[r])
  | none=>oM l acc
def Cp:List Nat->List Nat->Bool
 | [],_=>true
 | x::l,m=>match nz x 0 m with | some _=>Cp l m | none=>false
def Vp (ρ:List (Nat×Nat)) (vk:List Nat) (x:Cv):Cv:=match x with
 | .sw r=>match lk ρ r with | some k=> .sw k | none=> .un
 | .sl r a b=>match lk ρ r with | some k=> .sl k a b | none=> .un
 | .nw r a b=>match lk ρ r with | some k=> .nw k a b | none=> .un
 | .ns r a b c d=>match lk ρ r with | some k=> .ns k a b c d | none=> .un
 | .pe r a b=>match lk ρ r with | some k=> .pe k a b | none=> .un
 | .pn r a b c d=>match lk ρ r with | some k=> .pn k a b c d | none=> .un
 | .pv v _=>match nz v 0 vk with | some _=>x | none=> .un
 | .fn _ caps=>match Cp caps vk with | true=>x | false=> .un
 | x=>x
def u9 (r:Nat) (row:Row):Bool:=match Nat.ble 100000 r,Nat.ble r 299999,Nat.ble r 399999,row.ow with
 | true,false,true,1=>true
 | true,true,_,1=>false
 | true,true,_,3=>false
 | true,true,_,_=>true
 | _,_,_,_=>false
def Lk.Nb (m:Lk) (k:Nat) (x:Cv):Cv×List (Nat×Row):=match x with
 | .nl τ=>(.sw k,[(k,⟨τ,[],5⟩)])
 | .sw r=>match m.r r with
  | some row=>match u9 r row,row.ow with
   | false,1=>(.sw k,[(k,row)])
   | false,3=>(.sw k,[(k,row)])
   | _,_=>(x,[])
  | none=>(x,[])
 | .sl .. | .nw .. | .ns .. =>match m.Ni x,(m.vw x).ct with
  | true,some (.l τ ys)=>(.sw k,[(k,⟨τ,ys,match x.row with | some r=>(match m.r r with | some row=>row.ow | none=>1) | none=>1⟩)])
  | _,_=>(x,[])
 | x=>(x,[])
def Lk.PO (m:Lk):Nat->List Cv->List Cv×List (Nat×Row)
 | _,[]=>([],[])
 | k,x::l=>match m.Nb k x,m.PO (k+1) l with
  | (y,r),(cs,rs)=>(y::cs,r++rs)
def Lk.o5 (m:Lk):Nat->List (Nat×AV)->List (Nat×AV)×List (Nat×Row)
 | _,[]=>([],[])
 | k,(t,.c x)::l=>match m.Nb k x,m.o5 (k+64) l with
  | (y,r),(n,rs)=>((t,.c y)::n,r++rs)
 | k,(t,.a x)::l=>match m.PO k x,m.o5 (k+64) l with
  | (y,r),(n,rs)=>((t,.a y)::n,r++rs)
 | k,p::l=>match m.o5 (k+64) l with | (n,rs)=>(p::n,rs)
def Lk.EL (m:Lk):Nat->List (Nat×List Cv)->List (Nat×List Cv)×List (Nat×Row)
 | _,[]=>([],[])
 | k,(v,x)::l=>match m.PO k x,m.EL (k+64) l with
  | (y,r),(n,rs)=>((v,y)::n,r++rs)
def D6 (s:St):List Nat->List (Nat×AV)
 | []=>[]
 | t::l=>(t,vj (s.get t))::D6 s l
def vM (vs:List (Nat×List Cv)):List Nat->List (Nat×List Cv)
 | []=>[]
 | v::l=>match lk vs v with | some cs=>(v,cs)::vM vs l | none=>vM vs l
def qj (rs:List (Nat×Row)):Nat->List Nat->List (Nat×Nat)
 | _,[]=>[]
 | k,r::l=>match lk rs r with
  | some row=>(r,match u9 r row with | true=>r | false=>500000+k)::qj rs (k+1) l
  | none=>qj rs (k+1) l
def pW (rs:List (Nat×Row)):List (Nat×Nat)->List (Nat×Row)
 | []=>[]
 | (r,k)::l=>match lk rs r with
  | some row=>(k,row)::pW rs l
  | none=>pW rs l
def Sc:List (Nat×AV)->List Cv
 | []=>[]
 | (_,v)::l=>v.Du++Sc l
def Cd (f:Cv->Cv):List (Nat×AV)->List (Nat×AV)
 | []=>[]
 | (k,v)::l=>(k,kC f v)::Cd f l
def B7 (f:Cv->Cv):List (Nat×List Cv)->List (Nat×List Cv)
 | []=>[]
 | (k,v)::l=>(k,sm f v)::B7 f l
def freeze (fz:List Nat):List (Nat×Row)->List (Nat×Row)
 | []=>[]
 | (k,row)::l=>match cp k fz&&(Nat.ble 1 row.ow&&Nat.ble row.ow 5),Nat.ble 300000 k&&(Nat.ble k 399999&&Nat.beq row.ow 2) with
  | true,false=>(k,{ row with ow:=PU row.ow })::freeze fz l
  | _,_=>(k,row)::freeze fz l
def E7:List (Nat×Row)->Bool
 | []=>true
 | (_,row)::l=>(Nat.ble 1 row.ow&&Nat.ble row.ow 5)&&E7 l
def St.freeze (s:St) (fz:List Nat):St:=match fz with
 | []=>s
 | _=>{ s with rs:=Soft.freeze (Jn (sm s.get fz)) s.rs }
def St.prune (s:St) (ts vk:List Nat):St :=
 match s.lk.o5 600000 (D6 s ts),s.lk.EL 700000 (vM s.vs vk) with
 | (tm,r1),(vs,r2)=>match fC (keys (r1++r2))&&(jG (keys (r1++r2)) (keys s.rs)&&E7 s.rs) with
  | false=>⟨[],[],[]⟩
  | true =>
   let rs:=r1++(r2++s.rs)
   let ρ:=qj rs 0 (oM (vcs vs) (oM (Sc tm) []))
   ⟨Cd (Vp ρ (keys vs)) tm,B7 (Vp ρ (keys vs)) vs,pW rs ρ⟩
structure W0 where
 ts:List Nat
 vk:List Nat
 sk:List Sk
 out:List (Nat×(List Nat×List Nat))
 fz:List Nat
abbrev Live:=List (Nat×W0)
def Ex.num:Ex->Nat
 | .normal=>0 | .ret=>0 | .exit i=>i+1
def W0.leave (A:W0) (e:Ex) (s:St):St:=match lk A.out e.num with
 | some (ts,vk)=>s.prune ts vk
 | none=>s
def dG:Code->Nat
 | .region id _ _=>id
 | .seq a _=>dG a
 | .block _ c=>dG c
 | .loop c=>dG c
 | _=>0
abbrev Loop (R:Type):=Nat->Nat->List nk->(Ex->St->Option R)->Option R
def BR (k:Sk):Nat->List Sk->Option Nat
 | _,[]=>none
 | i,s::l=>match HY k s with | true=>some i | false=>BR k (i+1) l
def exec {R:Type} (X:Ctx) (E:Env R) (L:Live) (lp:Loop R):Code->St->(Ex->St->Option R)->Option R
 | .skip,s,K=>K .normal s
 | .region _ ops draw,s,K=>xt X E ops draw s (K .normal)
 | .seq a b,s,K=>exec X E L lp a s fun e s'=>match e with
  | .normal=>exec X E L lp b s' K
  | e=>K e s'
 | .cond c a b,s,K=>match X.yj s [] 0 c with
  | .c (.b x)=>bif x then exec X E L lp a s K else exec X E L lp b s K
  | _=>none
 | .block id c,s,K=>exec X E L lp c s fun e s'=>match e with
  | .exit i=>match Nat.beq i id with
   | true=>K .normal s'
   | false=>K e s'
  | e=>K e s'
 | .loop c,s,K=>match lk L (dG c) with
  | none=>none
  | some A=>match flat ((s.freeze A.fz).prune A.ts A.vk) with
   | (k,l)=>match BR k 0 A.sk with
    | some i=>lp (dG c) i l K
    | none=>none
 | .exit id,s,K=>K (.exit id) s
 | .ret,s,K=>K .ret s
 | _,_,_=>none
def round {R:Type} (X:Ctx) (E:Env R) (L:Live) (lp:Loop R) (c:Code) (i:Nat) (l:List nk) (K:Ex->St->Option R):Option R :=
 match lk L (dG c) with
 | none=>none
 | some A=>match (match nth A.sk i with | some k=>B2 k l | none=>none) with
  | none=>none
  | some s=>exec X E L lp c s fun e s'=>match e with
   | .normal=>exec X E L lp (.loop c) s' K
   | e=>K e (A.leave e s')
def kd (w m:Nat):Nat:=match w with | 0=>(match m with | 0=>1 | m=>m) | w=>w
def oT (k:Nat) (w:Nat) (ms:List Nat):Nat->List Ct->List Cv×List (Nat×Row)
 | _,[]=>([],[])
 | j,y::ys=>match oT k w (tl ms) (j+1) ys with
  | (cs,rs)=>match y with
   | .u=>(.un::cs,rs) | .b x=>(.b x::cs,rs) | .i a n=>(.i a n::cs,rs) | .s x=>(.s x::cs,rs)
   | .l τ xs=>(.sw (k+j)::cs,(k+j,⟨τ,xs,kd w (hd ms)⟩)::rs)
def se (am:List Nat):Nat->List AC->List AV×List (Nat×Row)
 | _,[]=>([],[])
 | p,x::l=>match se (tl am) (p+1) l with
  | (vs,rs) =>
   let w:Nat:=kd 0 (hd am)
   match x with
   | .c y=>match oT (100000+p*64) w [] 0 [y] with
    | ([c],r)=>(.c c::vs,r++rs)
    | _=>(.c .un::vs,rs)
   | .a ys=>match oT (100000+p*64) w [] 0 ys with
    | (cs,r)=>(.a cs::vs,r++rs)
   | .p k=>(.c (.pv k 0)::vs,rs)
   | .f g ks=>(.c (.fn g ks)::vs,rs)
   | .al k c=>(.c (.sw (300000+k*64+c))::vs,rs)
   | .io τ xs=>(.c (.sw (200000+p*64))::vs,(200000+p*64,⟨τ,xs,5⟩)::rs)
def Bc:Nat->List (List Nat)->List (List Ct)->List (Nat×List Cv)×List (Nat×Row)
 | _,_,[]=>([],[])
 | k,ms,l::cP=>match Bc (k+1) (tl ms) cP,oT (300000+k*64) 0 (ov ms) 0 l with
  | (vs,rs),(cs,r)=>((k,cs)::vs,r++rs)
def JR:Nat->List AV->List (Nat×AV)
 | _,[]=>[]
 | n,v::l=>(n,v)::JR (n+1) l
def entry (g:uw) (cn:List AC) (cP:List (List Ct)):St :=
 match se g.am 0 cn,Bc 0 g.vl cP with
 | (as,rs),(vs,rs')=>⟨JR 0 as,vs,rs++rs'⟩
def SS (r:Nat):Option (Nat×Nat):=match Nat.ble 100000 r,Nat.ble r 199999 with
 | true,true=>some ((r-100000)/64,(r-100000) % 64)
 | _,_=>none
def Lk.OS (m:Lk) (r:Nat):Bool:=match m.r r with | some row=>Nat.beq row.ow 1 | none=>false
def Db:List Nat->List Cv->List Nat
 | _,[]=>[]
 | ms,x::l=>(match hd ms with | 1=>x.rk | _=>[])++Db (tl ms) l
def PC:List (List Nat)->List (Bool×List Cv)->List Nat
 | _,[]=>[]
 | ms,(_,x)::l=>Db (ov ms) x++PC (tl ms) l
def Lk.W6 (m:Lk) (rl:List (List Nat)):AV->List Nat
 | .c x=>match x with
  | .pv v _=>match m.v v with | some cs=>Db (ov rl) cs | none=>[]
  | x=>Db (ov rl) [x]
 | .a l=>Db (ov rl) l
 | .t l=>PC rl l
 | .g .. =>[]
def ZO (off w:Nat):Bool:=match off with | 0=>sf w | _=>Nat.beq w 3
def Lk.uU (m:Lk) (w:Nat) (x:Cv):Option (Rc×List Nat):=match x with
 | .b y=>some (.c (.b y),[]) | .i k n=>some (.c (.i k n),[]) | .s y=>some (.c (.s y),[])
 | .un=>match w with
  | 7=>some (.un,[])
  | _=>none
 | .nl τ=>match w with
  | 1=>some (.m (.l τ []),[])
  | 7=>some (.un,[])
  | 6=>some (.c (.l τ []),[])
  | w=>match sf w with | true=>some (.c (.l τ []),[]) | false=>none
 | x=>match w with
  | 1=>match (m.vw x).ct with | some y=>some (.m y,[]) | none=>none
  | 7=>some (.un,[])
  | 6=>match x with
   | .sw r=>match SS r,m.OS r with | some (p,j),true=>some (.aw p j,[]) | _,_=>none
   | .nw r e c=>match SS r,m.OS r with | some (p,j),true=>some (.al p j e c,[]) | _,_=>none
   | _=>none
  | w=>match x with
   | .sw r=>match m.r r with
    | some row=>match sf w,oq w row.ow with
     | true,true=>some (.c (.l row.τ row.xs),[r])
     | _,_=>none
    | none=>none
   | .sl r off len=>match m.r r with
    | some row=>match ZO off w,oq w row.ow with
     | true,true=>some (.c (.l row.τ (sub row.xs off len)),[r])
     | _,_=>none
    | none=>none
   | _=>none
def Lk.vh (m:Lk):List Nat->List Cv->Option (List Rc×List Nat)
 | _,[]=>some ([],[])
 | ms,x::l=>match m.uU (hd ms) x,m.vh (tl ms) l with
  | some (y,a),some (ys,b)=>some (y::ys,a++b)
  | _,_=>none
def Lk.DT (m:Lk):List (List Nat)->List (Bool×List Cv)->Option (List (Bool×List Rc)×List Nat)
 | _,[]=>some ([],[])
 | ms,(b,x)::l=>match m.vh (ov ms) x,m.DT (tl ms) l with
  | some (y,a),some (ys,c)=>some ((b,y)::ys,a++c)
  | _,_=>none
def Lk.MB (m:Lk) (rl:List (List Nat)):AV->Option (RC×List Nat)
 | .c x=>match x with
  | .pv v c=>match Nat.ble 1000 v,Nat.beq c 0,m.v v with
   | true,true,some cs=>match m.vh (ov rl) cs with | some (y,a)=>some (.np y,a) | none=>none
   | _,_,_=>none
  | .un=>none
  | x=>match m.uU (hd (ov rl)) x with | some (y,a)=>some (.c y,a) | none=>none
 | .a l=>match m.vh (ov rl) l with | some (y,a)=>some (.a y,a) | none=>none
 | .t l=>match l with
  | []=>some (.u,[])
  | _=>match m.DT rl l with | some (y,a)=>some (.t y,a) | none=>none
 | .g .. =>none
def Lk.L7 (m:Lk) (k:Nat):Nat->List Nat->List Cv->Option (List Ct×List Nat)
 | _,_,[]=>some ([],[])
 | j,ms,x::l=>match m.L7 k (j+1) (tl ms) l with
  | none=>none
  | some (ys,a')=>match hd ms with
   | 0=>match x with
    | .b y=>some (.b y::ys,a') | .i k n=>some (.i k n::ys,a') | .s y=>some (.s y::ys,a')
    | _=>none
   | 1=>match x with
    | .sw r=>match Nat.beq r (300000+k*64+j)&&(Nat.ble r 399999&&m.OS r),m.ct x with
     | true,some y=>some (y::ys,a')
     | _,_=>none
    | _=>none
   | w=>match x with
    | .nl τ=>match sf w with | true=>some (.l τ []::ys,a') | false=>none
    | .sw r=>match m.r r with
     | some row=>match sf w,oq w row.ow with
      | true,true=>some (.l row.τ row.xs::ys,r::a')
      | _,_=>none
     | none=>none
    | _=>none
def Lk.D9 (m:Lk):Nat->List (List Nat)->Option (List (List Ct)×List Nat)
 | _,[]=>some ([],[])
 | k,w::ms=>match m.v k,m.D9 (k+1) ms with
  | some cs,some (ys,a')=>match m.L7 k 0 w cs with
   | some (y,a)=>some (y::ys,a++a')
   | none=>none
  | _,_=>none
def Lk.zq (m:Lk):Nat->List AC->Option (List Ct×List Nat)
 | _,[]=>some ([],[])
 | p,.io τ _::l=>match m.r (200000+p*64),m.zq (p+1) l with
  | some row,some (ys,a)=>match Nat.beq row.ow 5&&Nat.ble p 1500,MR row.τ τ with
   | true,true=>some (.l row.τ row.xs::ys,(200000+p*64)::a)
   | _,_=>none
  | _,_=>none
 | p,_::l=>m.zq (p+1) l
def BE (X:Ctx) (s:St):ResultVar->Option AV
 | .tmp t=>some (s.get t)
 | .cell t T=>match s.get t with
  | .c a=>match s.lk.from a with
   | some cs=>match Nat.ble (gj X.P T) cs.length&&De X.P T with
    | true=>some (U7 (AT X.P T) (cs.take (gj X.P T)))
    | false=>none
   | none=>none
  | _=>none
def th (X:Ctx) (s:St):List ResultVar->Option (List (Bool×List Cv))
 | []=>some []
 | r::l=>match BE X s r,th X s l with
  | some (.c .un),_=>none
  | some (.c x),some m=>some ((false,[x])::m)
  | some (.a x),some m=>some ((true,x)::m)
  | _,_=>none
def Jt (X:Ctx) (s:St):List ResultVar->Option AV
 | [r]=>BE X s r
 | l=>match th X s l with | some m=>some (.t m) | none=>none
def St.out (X:Ctx) (g:uw) (cn:List AC) (f:Func) (s:St):Option CR :=
 match Jt X s f.results.toList with
 | none=>none
 | some v=>match s.lk.MB g.rl v,s.lk.D9 0 g.vl,s.lk.zq 0 cn with
  | some (rc,a),some (vo,b),some (io,c)=>match fC (a++(b++c))&&(jG (s.lk.W6 g.rl v) (a++(b++c))&&Nat.ble g.vl.length 1000) with
   | true=>some ⟨rc,vo,io⟩
   | false=>none
  | _,_,_=>none
def Er {R:Type} (X:Ctx) (E:Env R) (L:Live) (lp:Loop R) (g:uw) (f:Func) (cn:List AC) (cP:List (List Ct)) (k:CR->Option R):Option R :=
 match f.body with
 | none=>none
 | some c=>exec (X.at f) E L lp c (entry g cn cP) fun e s=>match e with
  | .exit _=>none
  | _=>match s.out X g cn f with | some r=>k r | none=>none
def getLoop (n:Nat):Code->Option Code
 | .loop c=>match Nat.beq (dG c) n with | true=>some c | false=>getLoop n c
 | .seq a b=>match getLoop n a with | some c=>some c | none=>getLoop n b
 | .cond _ a b=>match getLoop n a with | some c=>some c | none=>getLoop n b
 | .block _ a=>getLoop n a
 | _=>none
end Go.Soft
namespace Go.Soft
open Go
theorem N6 {α β:Type} (f:α->β) (l:List (Nat×α)) (n:Nat):lk (l.map fun p=>(p.1,f p.2)) n=(lk l n).map f:=by
 induction l with
 | nil=>rfl
 | cons p l ih=>obtain ⟨k,v⟩:=p; simp only [List.map_cons,lk]; cases h:Nat.beq k n<;>simp [ih]
theorem iC {α:Type} (l:List α) (n:Nat):nth l n=l[n]? :=by
 induction l generalizing n with
 | nil=>cases n<;>rfl
 | cons x l ih=>cases n with
  | zero=>rfl
  | succ n=>simpa [nth] using ih n
theorem bf (τ:Ty) (x:El τ):(cells τ x).length=sz τ:=by cases τ<;>rfl
theorem o6 (τ:Ty):0<sz τ:=by cases τ<;>decide
theorem oV {τ:Ty} (h:τ.deep=false) (x:El τ) (ct:Ct) (hc:ct∈cells τ x):∀ σ ys,ct≠ .l σ ys:=by
 intro σ ys e; subst e; cases τ<;>simp_all [cells,Ty.deep]
theorem yT {τ:Ty} (x:El τ):Ct.u∉cells τ x:=by cases τ<;>simp [cells]
theorem Bh {τ:Ty} (x:El τ) (σ:Ty) (ys:List (El σ)) (hc:Ct.l σ ys∈cells τ x):σ.deep=false:=by
 cases τ<;>simp [cells] at hc<;>obtain ⟨rfl,_⟩:=hc<;>rfl
inductive Ow | v (k:Nat) | r (k:Nat) | n (r e c:Nat) | fz | x deriving DecidableEq
abbrev OM:=Nat->Option Ow
structure Gh where
 O:OM
 rv:Nat->Value
 cv:Nat->List Value
 vb:Nat->Nat
inductive Ff | ni | fz | own (t:Ow)
def In:Ff->Option Ow->Prop
 | .ni,o=>o=none\/o=some .fz
 | .fz,o=>o=some .fz
 | .own t,o=>o=some t
def As (A:Nat->Prop) (w:World) (z:Nat) (v:Value) (n:Nat) (cs:List Value):Prop :=
 cs.length=n*z/\((v= .slice none 0 0/\n=0) \/
  ∃ g off cap cur e fz,v= .slice (some ⟨g,off,none⟩) n cap/\w.heap[g]? =some (.cells cur e fz)/\A g/\n<=cap/\off+n*z<=cur.size/\(cur.toList.drop off).take (n*z)=cs)
def Sl (X:Ctx) (O:OM) (w:World) (c:Ff) (τ:Ty) (v:Value) (n:Nat) (cs:List Value):Prop:=match c with
 | .own t=>w.ownsRow 0 (X.id τ) (sz τ) v n cs/\∀ g,v.ownBlock=some g->O g=some t
 | c=>As (fun g=>In c (O g)) w (sz τ) v n cs
theorem As.mono {A B:Nat->Prop} {w w':World} {z:Nat} {v:Value} {n:Nat} {cs:List Value} (h:As A w z v n cs)
  (tP:∀ g o,w.heap[g]? =some o->A g->w'.heap[g]? =some o/\B g):As B w' z v n cs:=by
 refine ⟨h.1,?_⟩
 rcases h.2 with hn | ⟨g,off,cap,cur,e,fz,hv,hg,ha,hr⟩
 ·exact .inl hn
 ·exact .inr ⟨g,off,cap,cur,e,fz,hv,(tP g _ hg ha).1,(tP g _ hg ha).2,hr⟩
theorem HV {w:World} {base:Nat} {e:TypeId} {z:Nat} {v:Value} {n:Nat} {cs:List Value} {A:Nat->Prop} (h:w.ownsRow base e z v n cs)
  (ha:∀ g,v.ownBlock=some g->A g):As A w z v n cs:=by
 refine ⟨h.1,?_⟩
 rcases h.2 with hn | ⟨g,cap,cur,hv,_,hg,Iv,_,hs,ht⟩
 ·exact .inl hn
 ·refine .inr ⟨g,0,cap,cur,e,(0,0),hv,hg,ha g (by simp [hv,Value.ownBlock]),Iv,?_,by simpa using ht⟩
  rw [hs,Nat.zero_add]; exact zP _ Iv
theorem Sl.Aa {X:Ctx} {O:OM} {w:World} {c:Ff} {τ:Ty} {v:Value} {n:Nat} {cs:List Value} (h:Sl X O w c τ v n cs):As (fun g=>In c (O g)) w (sz τ) v n cs:=by
 cases c with
 | own t=>exact HV h.1 h.2
 | _=>exact h
def Ff.pN:Ff->Bool
 | .own _=>true
 | _=>false
theorem Sl.re {X:Ctx} {O O':OM} {w w':World} {c c':Ff} {τ:Ty} {v:Value} {n:Nat} {cs:List Value} (h:Sl X O w c τ v n cs)
  (tP:∀ g o,w.heap[g]? =some o->In c (O g)->w'.heap[g]? =some o/\In c' (O' g)) (hc:c'.pN=true->c.pN=true):Sl X O' w' c' τ v n cs:=by
 cases c' with
 | own t =>
  cases c with
  | own s =>
   obtain ⟨hr,ho⟩:=h
   refine ⟨⟨hr.1,?_⟩,fun g hg=> ?_⟩
   ·rcases hr.2 with hn | ⟨g,cap,cur,hv,hb,hg,rest⟩
    ·exact .inl hn
    ·exact .inr ⟨g,cap,cur,hv,hb,(tP g _ hg (ho g (by simp [hv,Value.ownBlock]))).1,rest⟩
   ·rcases hr.2 with ⟨hn,_⟩ | ⟨g',cap,cur,hv,hb,sB,rest⟩
    ·simp [hn,Value.ownBlock] at hg
    ·have:g=g':=by simpa [hv,Value.ownBlock] using hg.symm
     subst this
     exact (tP g _ sB (ho g hg)).2
  | _=>simp [Ff.pN] at hc
 | _=>exact h.Aa.mono tP
def gJ:Ct->Value
 | .b x=> .bool x | .i k n=> .int k n | .s x=> .string x | _=> .slice none 0 0
def gu (τ:Ty) (ys:List (El τ)):List Value:=ys.flatMap fun y=>(cells τ y).map gJ
def gm (X:Ctx) (O:OM) (w:World) (c:Ff):Ct->Value->Prop
 | .u,_=>False
 | .l τ ys,v=>τ.deep=false/\Sl X O w c τ v ys.length (gu τ ys)
 | x,v=>v=gJ x
def dU (k ow:Nat):Ff:=match eG ow with | true=> .own (.r k) | false=>match ow with | 3=> .fz | _=> .ni
def dY (k e c ow:Nat):Ff:=match ow with | 5=> .own (.n k e c) | 4=> .fz | 3=> .fz | _=> .ni
structure cX (X:Ctx) (O:OM) (w:World) (k:Nat) (row:Row) (v:Value) (cs:List Value):Prop where
 top:Sl X O w (dU k row.ow) row.τ v row.xs.length cs
 rU:∀ e c ct,e<row.xs.length->(row.cs e)[c]? =some ct->∃ u,cs[e*sz row.τ+c]? =some u/\gm X O w (dY k e c row.ow) ct u
theorem gm.re {X:Ctx} {O O':OM} {w w':World} {c c':Ff} {ct:Ct} {v:Value} (h:gm X O w c ct v)
  (tP:∀ g o,w.heap[g]? =some o->In c (O g)->w'.heap[g]? =some o/\In c' (O' g)) (hc:c'.pN=true->c.pN=true):gm X O' w' c' ct v:=by
 cases ct with
 | u=>exact h
 | l τ ys=>exact ⟨h.1,h.2.re tP hc⟩
 | _=>exact h
theorem RU {d a:Nat} (h:oq d a=true) (k k':Nat):(dU k' d).pN=true->(dU k a).pN=true:=by
 intro hd
 have h1:eG d=true:=by
  cases hk:eG d with
  | true=>rfl
  | false =>
   exfalso; revert hd; simp only [dU,hk]
   intro hd; revert hd; split<;>simp_all [Ff.pN]
   all_goals (rename_i h; revert h; split<;>simp)
 have h2:eG a=true:=by
  rcases d with _|_|_|_|_|_|d<;>simp_all [eG,oq]<;>(revert h; split<;>simp_all [eG])
 simp [dU,h2,Ff.pN]
theorem EU {d a:Nat} (h:oq d a=true) (k k' e c:Nat):(dY k' e c d).pN=true->(dY k e c a).pN=true:=by
 intro hd
 have h1:d=5:=by
  revert hd; simp only [dY]; split<;>simp [Ff.pN]
 subst h1
 have h2:a=5:=by revert h; simp only [oq]; split<;>simp_all
 subst h2; rfl
theorem cX.re {X:Ctx} {O O':OM} {w w':World} {k k' dS:Nat} {row:Row} {v:Value} {cs:List Value} (h:cX X O w k row v cs) (hle:oq dS row.ow=true)
  (cz:∀ g o,w.heap[g]? =some o->In (dU k row.ow) (O g)->w'.heap[g]? =some o/\In (dU k' dS) (O' g))
  (adx:∀ e c g o,w.heap[g]? =some o->In (dY k e c row.ow) (O g)->w'.heap[g]? =some o/\In (dY k' e c dS) (O' g)):cX X O' w' k' { row with ow:=dS } v cs :=
 ⟨h.top.re cz (RU hle k k'),fun e c ct he dk=>let ⟨u,hu,hr⟩:=h.rU e c ct he dk; ⟨u,hu,hr.re (adx e c) (EU hle k k' e c)⟩⟩
theorem Oq {a:Nat} (h:a=1\/a=2\/a=3\/a=4\/a=5):oq a a=true:=by rcases h with rfl | rfl | rfl | rfl | rfl<;>rfl
def CA (A:Nat->Prop) (w:World):Ct->Value->Prop
 | .u,_=>False
 | .l τ ys,v=>τ.deep=false/\As A w (sz τ) v ys.length (gu τ ys)
 | x,v=>v=gJ x
structure wx (A:Nat->Prop) (w:World) (τ:Ty) (xs:List (El τ)) (v:Value) (cs:List Value):Prop where
 top:As A w (sz τ) v xs.length cs
 rU:∀ e c ct,e<xs.length->(cells τ (xs.getD e (cy τ)))[c]? =some ct->∃ u,cs[e*sz τ+c]? =some u/\CA A w ct u
def CtV (A:Nat->Prop) (w:World):Ct->Value->Prop
 | .u,_=>True
 | .l τ xs,v=>∃ cs,wx A w τ xs v cs
 | x,v=>v=gJ x
theorem CA.mono {A B:Nat->Prop} {w w':World} {ct:Ct} {v:Value} (h:CA A w ct v) (tP:∀ g o,w.heap[g]? =some o->A g->w'.heap[g]? =some o/\B g):CA B w' ct v:=by
 cases ct with
 | u=>exact h
 | l τ ys=>exact ⟨h.1,h.2.mono tP⟩
 | _=>exact h
theorem wx.mono {A B:Nat->Prop} {w w':World} {τ:Ty} {xs:List (El τ)} {v:Value} {cs:List Value} (h:wx A w τ xs v cs)
  (tP:∀ g o,w.heap[g]? =some o->A g->w'.heap[g]? =some o/\B g):wx B w' τ xs v cs :=
 ⟨h.top.mono tP,fun e c ct he hc=>let ⟨u,hu,hr⟩:=h.rU e c ct he hc; ⟨u,hu,hr.mono tP⟩⟩
def MM (k:Nat) (o:Option Ow):Prop:=o=none\/o=some .fz\/o=some (.r k)\/∃ e c,o=some (.n k e c)
theorem Fz {k ow:Nat} {o:Option Ow} (h:In (dU k ow) o):MM k o:=by
 revert h; simp only [dU]; split
 ·exact fun h=> .inr (.inr (.inl h))
 ·split
  ·exact fun h=> .inr (.inl h)
  ·exact fun h=>h.elim .inl (fun h=> .inr (.inl h))
theorem KF {k e c ow:Nat} {o:Option Ow} (h:In (dY k e c ow) o):MM k o:=by
 revert h; simp only [dY]; split
 ·exact fun h=> .inr (.inr (.inr ⟨e,c,h⟩))
 ·exact fun h=> .inr (.inl h)
 ·exact fun h=> .inr (.inl h)
 ·exact fun h=>h.elim .inl (fun h=> .inr (.inl h))
theorem gm.Xp {X:Ctx} {O:OM} {w:World} {c:Ff} {ct:Ct} {v:Value} {A:Nat->Prop} (h:gm X O w c ct v) (ha:∀ g,In c (O g)->A g):CA A w ct v:=by
 cases ct with
 | u=>exact h
 | l τ ys=>exact ⟨h.1,h.2.Aa.mono fun g o hg hi=>⟨hg,ha g hi⟩⟩
 | _=>exact h
theorem cX.Xp {X:Ctx} {O:OM} {w:World} {k:Nat} {row:Row} {v:Value} {cs:List Value} (h:cX X O w k row v cs) {A:Nat->Prop} (ha:∀ g,MM k (O g)->A g):wx A w row.τ row.xs v cs :=
 ⟨h.top.Aa.mono fun g o hg hi=>⟨hg,ha g (Fz hi)⟩,fun e c ct he hc=>let ⟨u,hu,hr⟩:=h.rU e c ct he hc; ⟨u,hu,hr.Xp fun g hi=>ha g (KF hi)⟩⟩
theorem wx.Js {X:Ctx} {O:OM} {w:World} {k:Nat} {τ:Ty} {xs:List (El τ)} {v:Value} {cs:List Value} (h:wx (fun g=>In .ni (O g)) w τ xs v cs):cX X O w k ⟨τ,xs,1⟩ v cs:=by
 refine ⟨h.top,fun e c ct he hc=> ?_⟩
 obtain ⟨u,hu,hr⟩:=h.rU e c ct he hc
 refine ⟨u,hu,?_⟩
 cases ct with
 | u=>exact hr
 | l σ ys=>exact hr
 | _=>exact hr
theorem wx.X7 {X:Ctx} {O:OM} {w:World} {k:Nat} {τ:Ty} {xs:List (El τ)} {v:Value} {cs:List Value} (h:wx (fun g=>In .fz (O g)) w τ xs v cs):cX X O w k ⟨τ,xs,3⟩ v cs:=by
 refine ⟨h.top,fun e c ct he hc=> ?_⟩
 obtain ⟨u,hu,hr⟩:=h.rU e c ct he hc
 refine ⟨u,hu,?_⟩
 cases ct with
 | u=>exact hr
 | l σ ys=>exact hr
 | _=>exact hr
def BQ (z:Nat) (b:Value) (off len:Nat) (v:Value):Prop :=
 (b= .slice none 0 0/\v= .slice none 0 0/\len=0) \/
 ∃ g o n cap o' cap',b= .slice (some ⟨g,o,none⟩) n cap/\v= .slice (some ⟨g,o',none⟩) len cap'/\(len<=cap'/\cap'=cap-off)/\o<=o'/\o'<=o+off*z/\(len=0\/o'=o+off*z)
theorem kL {α:Type} (xs:List α) {off len:Nat} (h:off+len<=xs.length):(sub xs off len).length=len:=by
 simp [sub]; omega
theorem sV {α:Type} (xs:List α) {off len e:Nat} (d:α) (he:e<len):(sub xs off len).getD e d=xs.getD (off+e) d:=by
 simp [sub,List.getD,List.getElem?_take,he]
theorem As.sub {A:Nat->Prop} {w:World} {z:Nat} {v:Value} {n:Nat} {cs:List Value} (h:As A w z v n cs) {off len:Nat} (hle:off+len<=n) {u:Value} (hs:BQ z v off len u) :
  As A w z u len ((cs.drop (off*z)).take (len*z)):=by
 have hlen:((cs.drop (off*z)).take (len*z)).length=len*z:=by
  have h1:=h.1
  have h2:(off+len)*z<=n*z:=zP _ hle
  rw [Nat.add_mul] at h2
  simp [List.length_take,List.length_drop]; omega
 refine ⟨hlen,?_⟩
 rcases hs with ⟨_,hu,h0⟩ | ⟨g,o,n',cap,o',cap',hb,hu,WS,TJ,Zm,Z6⟩
 ·exact .inl ⟨hu,h0⟩
 ·rcases h.2 with ⟨hn,_⟩ | ⟨g1,off1,cap1,cur,e,fz,hv,hg,ha,_,mH,ht⟩
  ·rw [hn] at hb; cases hb
  ·rw [hv] at hb
   obtain ⟨rfl,rfl⟩:g1=g/\off1=o:=by
    injection hb with h1 _ _; injection h1 with h1; injection h1 with h1 h2 _; exact ⟨h1,h2⟩
   have h2:(off+len)*z<=n*z:=zP _ hle
   rw [Nat.add_mul] at h2
   refine .inr ⟨g1,o',cap',cur,e,fz,hu,hg,ha,WS.1,?_,?_⟩
   ·rcases Z6 with h0 | h0
    ·subst h0; simp; omega
    ·omega
   ·rcases Z6 with h0 | h0
    ·subst h0; simp
    ·subst h0
     rw [← ht,List.drop_take,List.take_take,List.drop_drop]
     congr 1; omega
theorem wx.sub {A:Nat->Prop} {w:World} {τ:Ty} {xs:List (El τ)} {v:Value} {cs:List Value} (h:wx A w τ xs v cs) {off len:Nat} (hle:off+len<=xs.length) {u:Value}
  (hs:BQ (sz τ) v off len u):wx A w τ (Soft.sub xs off len) u ((cs.drop (off*sz τ)).take (len*sz τ)):=by
 have hl:=kL xs hle
 refine ⟨by rw [hl]; exact h.top.sub hle hs,fun e c ct he hc=> ?_⟩
 rw [hl] at he
 rw [sV xs _ he] at hc
 obtain ⟨x,hx,hr⟩:=h.rU (off+e) c ct (by omega) hc
 refine ⟨x,?_,hr⟩
 have lS:c<sz τ:=by
  have:=(zU.1 hc).1
  rwa [bf] at this
 have:e*sz τ+c<len*sz τ:=by
  have:=zP (sz τ) (show e+1<=len from he)
  rw [Nat.add_mul] at this; omega
 rw [List.getElem?_take,if_pos this,List.getElem?_drop,← hx]
 congr 1; rw [Nat.add_mul]; omega
theorem fF (τ:Ty) (ys:List (El τ)):∀ e c,e<ys.length->c<sz τ->(gu τ ys)[e*sz τ+c]? =((cells τ (ys.getD e (cy τ)))[c]?).map gJ:=by
 induction ys with
 | nil=>intro e c he; simp at he
 | cons y ys ih =>
  intro e c he hc
  have hl:((cells τ y).map gJ).length=sz τ:=by simp [bf]
  simp only [gu,List.flatMap_cons]
  cases e with
  | zero=>rw [List.getElem?_append_left (by rw [hl]; simpa using hc)]; simp
  | succ e =>
   rw [List.getElem?_append_right (by rw [hl,Nat.add_mul]; omega),hl]
   have:=ih e c (by simpa using he) hc
   simp only [gu] at this
   simpa [show (e+1)*sz τ+c-sz τ=e*sz τ+c by rw [Nat.add_mul]; omega] using this
theorem mM (τ:Ty) (ys:List (El τ)):(gu τ ys).length=ys.length*sz τ:=by
 induction ys with
 | nil=>simp [gu]
 | cons y ys ih=>simp only [gu,List.flatMap_cons,zK,List.length_map,bf,zR,Nat.add_mul] at ih ⊢; omega
theorem wx.of_flat {A:Nat->Prop} {w:World} {τ:Ty} {ys:List (El τ)} {v:Value} (hd:τ.deep=false) (h:As A w (sz τ) v ys.length (gu τ ys)):wx A w τ ys v (gu τ ys):=by
 refine ⟨h,fun e c ct he hc=> ?_⟩
 have lS:c<sz τ:=by
  have:=(zU.1 hc).1
  rwa [bf] at this
 refine ⟨gJ ct,by rw [fF τ ys e c he lS,hc]; rfl,?_⟩
 have hm:ct∈cells τ (ys.getD e (cy τ)):=List.mem_of_getElem? hc
 cases ct with
 | u=>exact absurd hm (yT _)
 | l σ zs=>exact absurd rfl (oV hd _ _ hm σ zs)
 | _=>rfl
theorem wx.flat {A:Nat->Prop} {w:World} {τ:Ty} {ys:List (El τ)} {v:Value} {cs:List Value} (hd:τ.deep=false) (h:wx A w τ ys v cs):cs=gu τ ys:=by
 have hz:=o6 τ
 apply List.ext_getElem?
 intro i
 by_cases hi:i<ys.length*sz τ
 ·have he:i/sz τ<ys.length:=Nat.div_lt_of_lt_mul (by rwa [Nat.mul_comm])
  have hc:i % sz τ<sz τ:=Nat.mod_lt _ hz
  have Wy:i/sz τ*sz τ+i % sz τ=i:=by rw [Nat.mul_comm]; exact Nat.div_add_mod i (sz τ)
  have Dx:(cells τ (ys.getD (i/sz τ) (cy τ)))[i % sz τ]? =some ((cells τ (ys.getD (i/sz τ) (cy τ)))[i % sz τ]'(by rw [bf]; exact hc)):=List.getElem?_eq_getElem _
  obtain ⟨u,hu,hr⟩:=h.rU _ _ _ he Dx
  have h2:=fF τ ys _ _ he hc
  rw [Wy] at hu h2
  rw [hu,h2,Dx]
  have hm:(cells τ (ys.getD (i/sz τ) (cy τ)))[i % sz τ]'(by rw [bf]; exact hc)∈cells τ (ys.getD (i/sz τ) (cy τ)):=List.getElem_mem _
  revert hr hm
  generalize (cells τ (ys.getD (i/sz τ) (cy τ)))[i % sz τ]'(by rw [bf]; exact hc)=ct
  intro hr hm
  cases ct with
  | u=>exact absurd hm (yT _)
  | l σ zs=>exact absurd rfl (oV hd _ _ hm σ zs)
  | _=>exact congrArg some hr
 ·rw [List.getElem?_eq_none (by rw [h.top.1]; omega),List.getElem?_eq_none (by rw [mM]; omega)]
def AtV (b:Value) (i:Nat) (v:Value):Prop:=∃ g o n cap,b= .slice (some ⟨g,o,none⟩) n cap/\v= .pointer (some ⟨g,o+i,none⟩)
def bu (m:Lk) (γ:Gh):Cv->Value->Prop
 | .un,v=>v.oneCell'=true
 | .b x,v=>v= .bool x
 | .i k n,v=>v= .int k n
 | .s x,v=>v= .string x
 | .nl _,v=>v= .slice none 0 0
 | .sw r,v=>(∃ row,m.r r=some row)/\v=γ.rv r
 | .sl r off len,v=>∃ row,m.r r=some row/\off+len<=row.xs.length/\BQ (sz row.τ) (γ.rv r) off len v
 | .nw r e c,v=>∃ row τ ys,m.r r=some row/\e<row.xs.length/\(row.cs e)[c]? =some (.l τ ys)/\(γ.cv r)[e*sz row.τ+c]? =some v
 | .ns r e c off len,v=>∃ row τ ys u,m.r r=some row/\e<row.xs.length/\(row.cs e)[c]? =some (.l τ ys)/\(γ.cv r)[e*sz row.τ+c]? =some u/\off+len<=ys.length/\BQ (sz τ) u off len v
 | .pv k c,v=>(∃ cs,m.v k=some cs)/\v= .pointer (some ⟨γ.vb k,c,none⟩)
 | .pe r e c,v=>∃ row,m.r r=some row/\e<row.xs.length/\AtV (γ.rv r) (e*sz row.τ+c) v
 | .pn r e c k d,v=>∃ row τ ys u,m.r r=some row/\e<row.xs.length/\(row.cs e)[c]? =some (.l τ ys)/\(γ.cv r)[e*sz row.τ+c]? =some u/\k<ys.length/\AtV u (k*sz τ+d) v
 | .fn f caps,v=>(∀ k∈caps,∃ cs,m.v k=some cs)/\v= .func (.func f) #[] (caps.map fun k=>Value.pointer (some ⟨γ.vb k,0,none⟩)).toArray
inductive cj (m:Lk) (γ:Gh):List Cv->List Value->Prop
 | nil:cj m γ [] []
 | cons {x:Cv} {v:Value} {l:List Cv} {u:List Value}:bu m γ x v->cj m γ l u->cj m γ (x::l) (v::u)
def Pa (m:Lk) (γ:Gh) (p:Bool×List Cv) (v:Value):Prop:=∃ us,cj m γ p.2 us/\(p.1=true->v= .agg us.toArray)/\(p.1=false->us=[v])
inductive s8 (m:Lk) (γ:Gh):List (Bool×List Cv)->List Value->Prop
 | nil:s8 m γ [] []
 | cons {p:Bool×List Cv} {v:Value} {l:List (Bool×List Cv)} {u:List Value}:Pa m γ p v->s8 m γ l u->s8 m γ (p::l) (v::u)
def bq (m:Lk) (γ:Gh):AV->Value->Prop
 | .c .un,_=>True
 | .c x,v=>bu m γ x v
 | .a l,v=>∃ us,v= .agg us.toArray/\cj m γ l us
 | .t l,v=>∃ us,v= .tuple us.toArray/\s8 m γ l us
 | .g _ q u,v=>(q=true->bq m γ u v)/\(q=false->v=undef)
theorem bq.of {m:Lk} {γ:Gh} {x:Cv} {v:Value} (h:bu m γ x v):bq m γ (.c x) v:=by
 cases x<;>first | trivial | exact h
theorem bq.to {m:Lk} {γ:Gh} {x:Cv} {v:Value} (h:bq m γ (.c x) v) (hx:x≠ .un):bu m γ x v:=by
 cases x<;>first | exact absurd rfl hx | exact h
structure Rel (X:Ctx) (m:Lk) (γ:Gh) (w:World):Prop where
 vs:∀ k cs,m.v k=some cs->γ.O (γ.vb k)=some (.v k)/\∃ cur e,w.heap[γ.vb k]? =some (.cells cur e (0,0))/\cj m γ cs cur.toList
 rs:∀ k row,m.r k=some row->cX X γ.O w k row (γ.rv k) (γ.cv k)
def FO (X:Ctx) (S:St) (γ:Gh) (a:Act):Prop:=X.nt<=a.tmps.size/\∀ t av,lk S.tm t=some av->bq S.lk γ av (a.tmps.getD t undef)
structure Fr (O0:OM) (w0:World) (O:OM) (w:World):Prop where
 os:w.os=w0.os
 tape:w.tape=w0.tape
 output:w.output=w0.output
 size:w0.heap.size<=w.heap.size
 pd:∀ g,g<w0.heap.size->(O0 g=none\/O0 g=some .fz\/O0 g=some .x)->O g=O0 g/\w.heap[g]? =w0.heap[g]?
 top:∀ g,w.heap.size<=g->O g=none
structure Yt (m:Lk) (γ:Gh) (m':Lk) (γ':Gh) (r:Nat):Prop where
 row:∀ row,m.r r=some row->∃ row',m'.r r=some row'/\row'.τ=row.τ/\row.xs.length<=row'.xs.length
 rv:γ'.rv r=γ.rv r
structure PJ (m:Lk) (γ:Gh) (m':Lk) (γ':Gh) (r:Nat):Prop where
 cell:∀ row row',m.r r=some row->m'.r r=some row'->∀ e c τ ys,e<row.xs.length->(row.cs e)[c]? =some (.l τ ys) ->
  (∃ ys':List (El τ),(row'.cs e)[c]? =some (.l τ ys')/\ys.length<=ys'.length)/\(γ'.cv r)[e*sz row.τ+c]? =(γ.cv r)[e*sz row.τ+c]?
structure Yp (m:Lk) (γ:Gh) (m':Lk) (γ':Gh) (k:Nat):Prop where
 cs:∀ cs,m.v k=some cs->∃ cs',m'.v k=some cs'
 vb:γ'.vb k=γ.vb k
theorem bu.re {m m':Lk} {γ γ':Gh} {x:Cv} {v:Value} (h:bu m γ x v) (hr:∀ r,x.row=some r->Yt m γ m' γ' r) (hn:∀ r,x.row=some r->x.inner=true->PJ m γ m' γ' r)
  (hv:∀ k∈x.vk,Yp m γ m' γ' k):bu m' γ' x v:=by
 cases x with
 | un=>exact h
 | b x=>exact h
 | i k n=>exact h
 | s x=>exact h
 | nl τ=>exact h
 | sw r =>
  obtain ⟨⟨row,br⟩,h2⟩:=h
  obtain ⟨row',h3,_⟩:=(hr r rfl).row row br
  exact ⟨⟨row',h3⟩,h2.trans (hr r rfl).rv.symm⟩
 | sl r off len =>
  obtain ⟨row,br,hle,hs⟩:=h
  obtain ⟨row',h3,h4,h5⟩:=(hr r rfl).row row br
  exact ⟨row',h3,by omega,by rw [h4,(hr r rfl).rv]; exact hs⟩
 | nw r e c =>
  obtain ⟨row,τ,ys,br,he,hc,hu⟩:=h
  obtain ⟨row',h3,h4,h5⟩:=(hr r rfl).row row br
  obtain ⟨⟨ys',h6,h7⟩,h8⟩:=(hn r rfl rfl).cell row row' br h3 e c τ ys he hc
  exact ⟨row',τ,ys',h3,by omega,h6,by rw [h4,h8]; exact hu⟩
 | ns r e c off len =>
  obtain ⟨row,τ,ys,u,br,he,hc,hu,hle,hs⟩:=h
  obtain ⟨row',h3,h4,h5⟩:=(hr r rfl).row row br
  obtain ⟨⟨ys',h6,h7⟩,h8⟩:=(hn r rfl rfl).cell row row' br h3 e c τ ys he hc
  exact ⟨row',τ,ys',u,h3,by omega,h6,by rw [h4,h8]; exact hu,by omega,hs⟩
 | pv k c =>
  obtain ⟨⟨cs,je⟩,h2⟩:=h
  exact ⟨(hv k (by simp [Cv.vk])).cs cs je,by rw [(hv k (by simp [Cv.vk])).vb]; exact h2⟩
 | pe r e c =>
  obtain ⟨row,br,he,ha⟩:=h
  obtain ⟨row',h3,h4,h5⟩:=(hr r rfl).row row br
  exact ⟨row',h3,by omega,by rw [h4,(hr r rfl).rv]; exact ha⟩
 | pn r e c k d =>
  obtain ⟨row,τ,ys,u,br,he,hc,hu,hk,ha⟩:=h
  obtain ⟨row',h3,h4,h5⟩:=(hr r rfl).row row br
  obtain ⟨⟨ys',h6,h7⟩,h8⟩:=(hn r rfl rfl).cell row row' br h3 e c τ ys he hc
  exact ⟨row',τ,ys',u,h3,by omega,h6,by rw [h4,h8]; exact hu,by omega,ha⟩
 | fn f caps =>
  obtain ⟨h1,h2⟩:=h
  refine ⟨fun k hk=>let ⟨cs,je⟩:=h1 k hk; (hv k hk).cs cs je,?_⟩
  rw [h2]; congr 2
  exact List.map_congr_left fun k hk=>by rw [(hv k hk).vb]
structure Le (m M:Lk):Prop where
 r:∀ k row,m.r k=some row->M.r k=some row
 v:∀ k cs,m.v k=some cs->M.v k=some cs
theorem Le.refl (m:Lk):Le m m:=⟨fun _ _ h=>h,fun _ _ h=>h⟩
theorem vY (row:Row) (e:Nat):row.cs e=cells row.τ (row.xs.getD e (cy row.τ)):=rfl
theorem wx.cell {A:Nat->Prop} {w:World} {row:Row} {v:Value} {cs:List Value} (h:wx A w row.τ row.xs v cs) {e c:Nat} {τ:Ty} {ys:List (El τ)} {u:Value}
  (he:e<row.xs.length) (hc:(row.cs e)[c]? =some (.l τ ys)) (hu:cs[e*sz row.τ+c]? =some u):τ.deep=false/\wx A w τ ys u (gu τ ys):=by
 obtain ⟨u',pg,hd,hs⟩:=h.rU e c _ he hc
 rw [hu] at pg; cases pg
 exact ⟨hd,.of_flat hd hs⟩
def U3 (γ:Gh) (x:Cv) (g:Nat):Prop:=match x.row with | some r=>MM r (γ.O g) | none=>False
theorem KQ {m M:Lk} {γ:Gh} {w:World} (hm:Le m M) {x:Cv} {v:Value} (hx:bu M γ x v) {τ:Ty} {xs:List (El τ)} {A:Nat->Prop}
  (fam:∀ r row,m.r r=some row->x.row=some r->wx A w row.τ row.xs (γ.rv r) (γ.cv r))
  (h:(m.vw x).ct=some (.l τ xs)):(∃ cs,wx A w τ xs v cs)/\(m.vw x).len=some xs.length:=by
 cases x with
 | nl σ =>
  simp only [Lk.vw,Vw.ct,zA,Ct.l.injEq] at h
  obtain ⟨rfl,h⟩:=h; cases h
  refine ⟨⟨[],⟨by simp,.inl ⟨hx,rfl⟩⟩,fun e c ct he=>by simp at he⟩,rfl⟩
 | sw r =>
  simp only [Lk.vw] at h ⊢
  cases hr:m.r r with
  | none=>simp [hr,Vw.ct] at h
  | some row =>
   simp only [hr,Vw.ct,zA,Ct.l.injEq] at h
   obtain ⟨rfl,h⟩:=h; cases h
   obtain ⟨_,hx⟩:=hx
   exact ⟨⟨_,by rw [hx]; exact fam r row hr rfl⟩,by simp [Vw.len]⟩
 | sl r off len =>
  simp only [Lk.vw] at h ⊢
  cases hr:m.r r with
  | none=>simp [hr,Vw.ct] at h
  | some row =>
   simp only [hr,Vw.ct,zA,Ct.l.injEq] at h
   obtain ⟨rfl,h⟩:=h; cases h
   obtain ⟨row',cC,hle,hs⟩:=hx
   rw [hm.r r row hr] at cC; cases cC
   exact ⟨⟨_,(fam r row hr rfl).sub hle hs⟩,by simp [Vw.len,kL _ hle]⟩
 | nw r e c =>
  simp only [Lk.vw,iC] at h ⊢
  cases hr:m.r r with
  | none=>simp [hr,Vw.ct] at h
  | some row =>
   obtain ⟨row',τ',ys,cC,he,hc,hu⟩:=hx
   rw [hm.r r row hr] at cC; cases cC
   simp only [hr,hc,Vw.ct,zA,Ct.l.injEq] at h
   obtain ⟨rfl,h⟩:=h; cases h
   exact ⟨⟨_,((fam r row hr rfl).cell he hc hu).2⟩,by simp [hc,Vw.len]⟩
 | ns r e c off len =>
  simp only [Lk.vw,iC] at h ⊢
  cases hr:m.r r with
  | none=>simp [hr,Vw.ct] at h
  | some row =>
   obtain ⟨row',τ',ys,u,cC,he,hc,hu,hle,hs⟩:=hx
   rw [hm.r r row hr] at cC; cases cC
   simp only [hr,hc,Vw.ct,zA,Ct.l.injEq] at h
   obtain ⟨rfl,h⟩:=h; cases h
   exact ⟨⟨_,((fam r row hr rfl).cell he hc hu).2.sub hle hs⟩,by simp [hc,Vw.len,kL _ hle]⟩
 | _=>simp [Lk.vw,Vw.ct] at h
def R9 (r ow:Nat) (o:Option Ow):Prop:=In (dU r ow) o\/∃ e c,In (dY r e c ow) o
theorem cX.acA {X:Ctx} {O:OM} {w:World} {k:Nat} {row:Row} {v:Value} {cs:List Value} (h:cX X O w k row v cs) {A:Nat->Prop} (ha:∀ g,R9 k row.ow (O g)->A g):wx A w row.τ row.xs v cs :=
 ⟨h.top.Aa.mono fun g o hg hi=>⟨hg,ha g (.inl hi)⟩,fun e c ct he hc=>let ⟨u,hu,hr⟩:=h.rU e c ct he hc; ⟨u,hu,hr.Xp fun g hi=>ha g (.inr ⟨e,c,hi⟩)⟩⟩
theorem BD {X:Ctx} {m M:Lk} {γ:Gh} {w:World} (hm:Le m M) (hR:Rel X M γ w) {x:Cv} {v:Value} (hx:bu M γ x v) {τ:Ty} {xs:List (El τ)}
  (h:(m.vw x).ct=some (.l τ xs)):(∃ cs,wx (U3 γ x) w τ xs v cs)/\(m.vw x).len=some xs.length :=
 KQ hm hx (fun r row hr hx=>(hR.rs r row (hm.r r row hr)).Xp fun g hg=>by simpa [U3,hx] using hg) h
theorem Fk {X:Ctx} {m M:Lk} {γ:Gh} {w:World} (hm:Le m M) (hR:Rel X M γ w) {x:Cv} {v:Value} (hx:bu M γ x v) {τ:Ty} {xs:List (El τ)} {A:Nat->Prop}
  (hA:∀ r row g,m.r r=some row->x.row=some r->R9 r row.ow (γ.O g)->A g) (h:(m.vw x).ct=some (.l τ xs)):∃ cs,wx A w τ xs v cs :=
 (KQ hm hx (fun r row hr hx=>(hR.rs r row (hm.r r row hr)).acA fun g hg=>hA r row g hr hx hg) h).1
def StructEq (P:Program) (t:TypeId) (ks:List Ct):Prop:=∀ (l m:List Cv) (us vs:List Value) (c:Bool) (γ:Gh) (M:Lk) (w:World),nB ks l=true->nB ks m=true->cj M γ l us->cj M γ m vs->zl l m=some c ->
 (do eqGuard .eql t (.tmp 0) (.tmp 0) (.agg us.toArray) (.agg vs.toArray); Op.equal t (.agg us.toArray) (.agg vs.toArray):Sem Bool).run P w= .ok c w
structure iH (X:Ctx):Prop where
 ty:∀ e τ,lk X.ty e=some τ->∃ i,X.P.info? e=some i/\i.size=sz τ
 id:∀ e τ,lk X.ty e=some τ->X.id τ=e->∃ i z,X.P.info? e=some i/\i.zero=some z/\z.cells.toList=(cells τ (cy τ)).map gJ/\i.bytes<=128
 byte:∀ e,lk X.ty e=some .byte->X.P.underlying e=some (.int .u8)
 eqs:∀ t ks,lk X.eqs t=some ks->StructEq X.P t ks
 mixed:X.P.follows .mixedOrders=true
variable {X:Ctx} {m M:Lk} {γ:Gh} {w:World} {ρ:Operand->Value}
theorem G0 {P:Program} {t:TypeId} {i:TypeInfo} (h:P.info? t=some i) (w:World):(typeInfo t).run P w= .ok i w:=by
 simp [typeInfo,h]
theorem o7 {P:Program} {t:TypeId} {i:TypeInfo} (h:P.info? t=some i) (w:World):(sizeOf t).run P w= .ok i.size w:=by
 simp [sizeOf,typeInfo,h]
theorem G5 {P:Program} {t:TypeId} {n:Nat} (h:gj P t=n) (hn:0<n):∃ i,P.info? t=some i/\i.size=n:=by
 unfold gj at h
 cases hi:P.info? t with
 | none=>simp [hi] at h; omega
 | some i=>exact ⟨i,rfl,by simpa [hi] using h⟩
theorem rz {a b:IntKind} (h:Gj a b=true):a=b:=by cases a<;>cases b<;>first | rfl | simp [Gj] at h
theorem Cm {a b:Ty} (h:MR a b=true):a=b:=by cases a<;>cases b<;>first | rfl | simp [MR] at h
theorem P8 (a:Ty):MR a a=true:=by cases a<;>rfl
theorem rV:∀ x y:List UInt8,(Op.bytesLess x y||x==y)= !Op.bytesLess y x
 | [],[]=>rfl
 | [],b::y=>rfl
 | a::x,[]=>rfl
 | a::x,b::y=>by
  have ih:=rV x y
  simp only [Op.bytesLess]
  by_cases h1:a<b
  ·have h2:¬ b<a:=UInt8.lt_asymm h1
   have h3:a≠b:=fun e=>UInt8.lt_irrefl _ (e▸h1)
   simp [h1,h2,h3,Ne.symm h3]
  ·by_cases h2:b<a
   ·have h3:a≠b:=fun e=>UInt8.lt_irrefl _ (e▸h2)
    simp [h1,h2,h3,Ne.symm h3]
   ·have h3:a=b:=UInt8.le_antisymm (UInt8.not_lt.1 h2) (UInt8.not_lt.1 h1)
    subst h3
    simp only [UInt8.lt_irrefl,decide_false,Bool.false_or,beq_self_eq_true,Bool.true_and]
    rw [← ih]
    simp
def Good (o:Out) (v:AV):Prop:=o= .r0 v\/o= .r true v
theorem Vz {op:BinOp} {k:IntKind} {a b:Int} {t:TypeId} {x y:Operand} {v:AV} (h:Good (m7 op (.c (.i k a)) (.c (.i k b))) v) :
  ∃ u,(do eqGuard op t x y (.int k a) (.int k b); Go.binOp op t (.int k a) (.int k b):Sem Value).run X.P w= .ok u w/\bq M γ v u:=by
 have hk:Gj k k=true:=by cases k<;>rfl
 cases op<;>simp only [Good,m7,U6,hk,Out.r0.injEq,Out.r.injEq,reduceCtorEq,or_false,false_or,zD,Bool.not_eq_true',beq_eq_false_iff_ne] at h
 case quo=>obtain ⟨h0,rfl⟩:=h; exact ⟨_,by simp [eqGuard,Go.binOp,Op.intDiv,h0],rfl⟩
 case rem=>obtain ⟨h0,rfl⟩:=h; exact ⟨_,by simp [eqGuard,Go.binOp,Op.intDiv,h0],rfl⟩
 case shl=>obtain ⟨h0,rfl⟩:=h; exact ⟨_,by simp [eqGuard,Go.binOp,Op.shift,Int.not_lt.2 h0],rfl⟩
 case shr=>obtain ⟨h0,rfl⟩:=h; exact ⟨_,by simp [eqGuard,Go.binOp,Op.shift,Int.not_lt.2 h0],rfl⟩
 all_goals (subst h; exact ⟨_,by simp [eqGuard,Go.binOp,Op.intArith,Op.intBits,Op.intCmp,bne],rfl⟩)
theorem OA {op:BinOp} {k k':IntKind} {a b:Int} {t:TypeId} {x y:Operand} {v:AV} (hk:Gj k k'=false) (h:Good (m7 op (.c (.i k a)) (.c (.i k' b))) v) :
  ∃ u,(do eqGuard op t x y (.int k a) (.int k' b); Go.binOp op t (.int k a) (.int k' b):Sem Value).run X.P w= .ok u w/\bq M γ v u:=by
 cases op<;>simp only [Good,m7,U6,hk,Out.r0.injEq,Out.r.injEq,reduceCtorEq,or_false,false_or,zD,Bool.not_eq_true',beq_eq_false_iff_ne] at h
 case shl=>obtain ⟨h0,rfl⟩:=h; exact ⟨_,by simp [eqGuard,Go.binOp,Op.shift,Int.not_lt.2 h0],rfl⟩
 case shr=>obtain ⟨h0,rfl⟩:=h; exact ⟨_,by simp [eqGuard,Go.binOp,Op.shift,Int.not_lt.2 h0],rfl⟩
theorem Vt {op:BinOp} {a b:ByteArray} {t:TypeId} {x y:Operand} {v:AV} (h:Good (m7 op (.c (.s a)) (.c (.s b))) v) :
  ∃ u,(do eqGuard op t x y (.string a) (.string b); Go.binOp op t (.string a) (.string b):Sem Value).run X.P w= .ok u w/\bq M γ v u:=by
 have e1:(a.toList==b.toList)=(a==b):=(beq_toListBytes a b).symm
 have e2:=rV a.toList b.toList
 cases op<;>simp only [Good,m7,Yf,Rf,Out.r0.injEq,Out.r.injEq,reduceCtorEq,or_false,false_or,zD] at h
 case add =>
  obtain ⟨h0,rfl⟩:=h
  have:¬ ((a.size+b.size:Nat):Int)>IntKind.i64.max:=by
   show ¬ ((a.size+b.size:Nat):Int)>9223372036854775807
   omega
  exact ⟨_,by simp only [eqGuard,Go.binOp,Op.stringOp,if_neg this]; rfl,rfl⟩
 case gtr=>subst h; exact ⟨_,by simp only [eqGuard,Go.binOp,Op.stringOp,e2]; rfl,by simp [bq,bu]⟩
 case leq=>subst h; exact ⟨_,by simp only [eqGuard,Go.binOp,Op.stringOp,e2]; rfl,by simp [bq,bu]⟩
 all_goals (subst h; exact ⟨_,by simp only [eqGuard,Go.binOp,Op.stringOp,e1]; rfl,rfl⟩)
theorem run_equal_bool {t:TypeId} (ht:X.P.underlying t=some .bool) (a b:Bool):(Op.equal t (.bool a) (.bool b)).run X.P w= .ok (a==b) w:=by
 show (Op.equalIn (9999+1) t (.bool a) (.bool b)).run X.P w=_
 rw [Op.equalIn,Sem.run_bind,run_underlying ht]
 rfl
theorem S7 {op:BinOp} {a:Bool} {b:AV} {bv:Value} {t:TypeId} {x y:Operand} {v:AV} (ht:X.P.underlying t=some .bool) (hb:bq M γ b bv) (h:Good (m7 op (.c (.b a)) b) v) :
  ∃ u,(do eqGuard op t x y (.bool a) bv; Go.binOp op t (.bool a) bv:Sem Value).run X.P w= .ok u w/\bq M γ v u:=by
 cases b with
 | c y =>
  cases y with
  | b b =>
   have hb:bv= .bool b:=hb
   subst hb
   cases op<;>simp only [Good,m7,Out.r0.injEq,Out.r.injEq,reduceCtorEq,or_false,false_or] at h
   all_goals (subst h; exact ⟨_,by simp only [eqGuard,Go.binOp,Sem.run_bind,zM,Bool.false_eq_true,if_false,Sem.run_pure,Result.andThen_ok,run_equal_bool ht],rfl⟩)
  | _=>simp [Good,m7] at h
 | _=>simp [Good,m7] at h
theorem VN (hX:iH X) {op:BinOp} {a:List Cv} {b:AV} {av bv:Value} {t:TypeId} {x y:Operand} {v:AV} {ks:List Ct} (ht:lk X.eqs t=some ks) (wq:nB ks a=true) (so:∀ m,b= .a m->nB ks m=true) (ha:bq M γ (.a a) av) (hb:bq M γ b bv)
  (h:Good (m7 op (.a a) b) v):∃ u,(do eqGuard op t x y av bv; Go.binOp op t av bv:Sem Value).run X.P w= .ok u w/\bq M γ v u:=by
 cases b with
 | a m =>
  obtain ⟨us,rfl,hu⟩:=ha
  obtain ⟨vs,rfl,hv⟩:=hb
  have key:∀ c,zl a m=some c->(eqGuard .eql t (.tmp 0) (.tmp 0) (.agg us.toArray) (.agg vs.toArray) >>= fun _=>Op.equal t (.agg us.toArray) (.agg vs.toArray)).run X.P w= .ok c w :=
   fun c hc=>hX.eqs t ks ht a m us vs c γ M w wq (so m rfl) hu hv hc
  have g1:∀ op x y,(op= .eql\/op= .neq)->eqGuard op t x y (.agg us.toArray) (.agg vs.toArray)=eqGuard .eql t (.tmp 0) (.tmp 0) (.agg us.toArray) (.agg vs.toArray):=by
   intro op x y ho; rcases ho with rfl | rfl<;>simp [eqGuard]
  cases hc:zl a m with
  | none=>cases op<;>simp [Good,m7,hc] at h
  | some c =>
   have key:=key c hc
   simp only [Sem.run_bind] at key
   cases op<;>simp only [Good,m7,hc,Out.r0.injEq,Out.r.injEq,reduceCtorEq,or_false,false_or] at h
   case eql =>
    subst h
    refine ⟨_,?_,rfl⟩
    rw [g1 _ x y (.inl rfl)]
    simp only [Go.binOp,Sem.run_bind]
    cases hg:(eqGuard .eql t (.tmp 0) (.tmp 0) (.agg us.toArray) (.agg vs.toArray)).run X.P w with
    | halt hh w'=>rw [hg] at key; simp at key
    | ok z w' =>
     rw [hg] at key
     simp only [Result.andThen_ok] at key ⊢
     rw [key]; rfl
   case neq =>
    subst h
    refine ⟨_,?_,rfl⟩
    rw [g1 _ x y (.inr rfl)]
    simp only [Go.binOp,Sem.run_bind]
    cases hg:(eqGuard .eql t (.tmp 0) (.tmp 0) (.agg us.toArray) (.agg vs.toArray)).run X.P w with
    | halt hh w'=>rw [hg] at key; simp at key
    | ok z w' =>
     rw [hg] at key
     simp only [Result.andThen_ok] at key ⊢
     rw [key]; rfl
 | _=>simp [Good,m7] at h
theorem jC (g o n:Nat):(⟨g,o,none⟩:Addr).add n=⟨g,o+n,none⟩:=by
 unfold Addr.add; split<;>simp_all
def xl (v:Value) (n:Nat):Prop:=(v= .slice none 0 0/\n=0)\/∃ g o cap,v= .slice (some ⟨g,o,none⟩) n cap/\n<=cap
theorem As.Jd {A:Nat->Prop} {z:Nat} {v:Value} {n:Nat} {cs:List Value} (h:As A w z v n cs):xl v n:=by
 rcases h.2 with h | ⟨g,o,cap,cur,e,fz,hv,_,_,hn,_⟩
 ·exact .inl h
 ·exact .inr ⟨g,o,cap,hv,hn⟩
theorem xl.sub {z:Nat} {b v:Value} {off len n:Nat} (hs:BQ z b off len v):xl v len:=by
 rcases hs with ⟨_,hv,h0⟩ | ⟨g,o,n',cap,o',cap',_,hv,hl,_⟩
 ·exact .inl ⟨hv,h0⟩
 ·exact .inr ⟨g,o',cap',hv,hl.1⟩
theorem xl.self {z:Nat} {b:Value} {n:Nat} (h:xl b n):BQ z b 0 n b:=by
 rcases h with ⟨rfl,rfl⟩ | ⟨g,o,cap,rfl,hn⟩
 ·exact .inl ⟨rfl,rfl,rfl⟩
 ·exact .inr ⟨g,o,n,cap,o,cap,rfl,rfl,⟨hn,by simp⟩,Nat.le_refl _,by simp,.inr (by simp)⟩
theorem ue (hm:Le m M) (hR:Rel X M γ w) {x:Cv} {v:Value} (hx:bu M γ x v) {n:Nat} (h:(m.vw x).len=some n):xl v n:=by
 cases x with
 | nl σ=>simp only [Lk.vw,Vw.len,zA] at h; subst h; exact .inl ⟨hx,rfl⟩
 | sw r =>
  simp only [Lk.vw] at h
  cases hr:m.r r with
  | none=>simp [hr,Vw.len] at h
  | some row =>
   simp only [hr,Vw.len,zA] at h; subst h
   obtain ⟨_,rfl⟩:=hx
   exact (hR.rs r row (hm.r r row hr)).top.Aa.Jd
 | sl r off len =>
  simp only [Lk.vw] at h
  cases hr:m.r r with
  | none=>simp [hr,Vw.len] at h
  | some row =>
   simp only [hr,Vw.len,zA] at h; subst h
   obtain ⟨_,_,_,hs⟩:=hx
   exact xl.sub (n:=0) hs
 | nw r e c =>
  simp only [Lk.vw,iC] at h
  cases hr:m.r r with
  | none=>simp [hr,Vw.len] at h
  | some row =>
   obtain ⟨row',τ',ys,cC,he,hc,hu⟩:=hx
   have fU:=hm.r r row hr
   rw [fU] at cC; cases cC
   simp only [hr,hc,Vw.len,zA] at h; subst h
   obtain ⟨u',pg,eO⟩:=(hR.rs r row fU).rU e c _ he hc
   rw [hu] at pg; cases pg
   exact eO.2.Aa.Jd
 | ns r e c off len =>
  simp only [Lk.vw,iC] at h
  cases hr:m.r r with
  | none=>simp [hr,Vw.len] at h
  | some row =>
   obtain ⟨row',τ',ys,u,cC,he,hc,hu,hle,hs⟩:=hx
   have fU:=hm.r r row hr
   rw [fU] at cC; cases cC
   simp only [hr,hc,Vw.len,zA] at h; subst h
   exact xl.sub (n:=0) hs
 | _=>simp [Lk.vw,Vw.len] at h
theorem rD {z:Nat} {b v:Value} {off len l k:Nat} (hs:BQ z b off len v) (hl:l+k<=len) :
  ∃ a cap,v= .slice a len cap/\len<=cap/\BQ z b (off+l) k (sliced a l (l+k) cap z):=by
 rcases hs with ⟨hb,hv,h0⟩ | ⟨g,o,n',cap,o',cap',hb,hv,WS,TJ,Zm,Z6⟩
 ·subst hv; subst h0
  obtain ⟨rfl,rfl⟩:l=0/\k=0:=by omega
  exact ⟨none,0,rfl,Nat.le_refl _,.inl ⟨hb,by simp [sliced],rfl⟩⟩
 ·refine ⟨_,_,hv,WS.1,?_⟩
  have agX:=WS.1
  have ag1:=WS.2
  simp only [sliced]
  by_cases hc:cap'=l
  ·have hk:k=0:=by omega
   subst hk
   rw [if_pos hc]
   refine .inr ⟨g,o,n',cap,o',cap'-l,hb,by simp,⟨by omega,by omega⟩,TJ,?_,.inl rfl⟩
   have:=zP z (show off<=off+l by omega)
   omega
  ·rw [if_neg hc]
   refine .inr ⟨g,o,n',cap,o'+l*z,cap'-l,hb,by simp [jC],⟨by omega,by omega⟩,by omega,?_,?_⟩
   ·rw [Nat.add_mul]; omega
   ·rcases Z6 with h0 | h0
    ·left; omega
    ·right; rw [Nat.add_mul]; omega
def Hw (x:Cv) (l k:Nat):AV:=match x with
 | .sw r=> .c (.sl r l k) | .sl r off _=> .c (.sl r (off+l) k) | .nw r e c=> .c (.ns r e c l k) | .ns r e c off _=> .c (.ns r e c (off+l) k) | .nl τ=> .c (.nl τ) | _=> .c .un
theorem E0 (hm:Le m M) (hR:Rel X M γ w) {x:Cv} {v:Value} (hx:bu M γ x v) {n:Nat} (h:(m.vw x).len=some n) {τ:Ty} (ht:(m.vw x).ty=some τ) {l k:Nat} (hl:l+k<=n) :
  ∃ a cap,v= .slice a n cap/\n<=cap/\bq M γ (Hw x l k) (sliced a l (l+k) cap (sz τ)):=by
 have hs:=ue hm hR hx h
 cases x with
 | nl σ =>
  simp only [Lk.vw,Vw.len,zA,List.length_nil] at h; subst h
  obtain ⟨rfl,rfl⟩:l=0/\k=0:=by omega
  have hx:v= .slice none 0 0:=hx
  exact ⟨none,0,hx,Nat.le_refl _,by simp [Hw,bq,bu,sliced]⟩
 | sw r =>
  simp only [Lk.vw] at h ht
  cases hr:m.r r with
  | none=>simp [hr,Vw.len] at h
  | some row =>
   simp only [hr,Vw.len,Vw.ty,zA] at h ht; subst h; subst ht
   obtain ⟨_,rfl⟩:=hx
   obtain ⟨a,cap,h1,h2,h3⟩:=rD (z:=sz row.τ) hs.self hl
   exact ⟨a,cap,h1,h2,row,hm.r r row hr,hl,by simpa using h3⟩
 | sl r off len =>
  simp only [Lk.vw] at h ht
  cases hr:m.r r with
  | none=>simp [hr,Vw.len] at h
  | some row =>
   simp only [hr,Vw.len,Vw.ty,zA] at h ht; subst h; subst ht
   obtain ⟨row',cC,hle,sr⟩:=hx
   rw [hm.r r row hr] at cC; cases cC
   obtain ⟨a,cap,h1,h2,h3⟩:=rD sr hl
   exact ⟨a,cap,h1,h2,row,hm.r r row hr,by omega,h3⟩
 | nw r e c =>
  simp only [Lk.vw,iC] at h ht
  cases hr:m.r r with
  | none=>simp [hr,Vw.len] at h
  | some row =>
   obtain ⟨row',τ',ys,cC,he,hc,hu⟩:=hx
   rw [hm.r r row hr] at cC; cases cC
   simp only [hr,hc,Vw.len,Vw.ty,zA] at h ht; subst h; subst ht
   obtain ⟨a,cap,h1,h2,h3⟩:=rD (z:=sz τ') hs.self hl
   exact ⟨a,cap,h1,h2,row,τ',ys,v,hm.r r row hr,he,hc,hu,hl,by simpa using h3⟩
 | ns r e c off len =>
  simp only [Lk.vw,iC] at h ht
  cases hr:m.r r with
  | none=>simp [hr,Vw.len] at h
  | some row =>
   obtain ⟨row',τ',ys,u,cC,he,hc,hu,hle,sr⟩:=hx
   rw [hm.r r row hr] at cC; cases cC
   simp only [hr,hc,Vw.len,Vw.ty,zA] at h ht; subst h; subst ht
   obtain ⟨a,cap,h1,h2,h3⟩:=rD sr hl
   exact ⟨a,cap,h1,h2,row,τ',ys,u,hm.r r row hr,he,hc,hu,by omega,h3⟩
 | _=>simp [Lk.vw,Vw.len] at h
theorem H6 {P:Program} {t:TypeId} {n:Nat} (h:Bm P t=n) (hn:0<n):∃ e i,P.underlying t=some (.slice e)/\P.info? e=some i/\i.size=n:=by
 simp only [Bm,Pk] at h
 revert h; split<;>intro h
 ·rename_i e he
  obtain ⟨i,hi,hs⟩:=G5 h hn
  revert he; split<;>intro he
  ·cases he; exact ⟨_,i,by assumption,hi,hs⟩
  ·cases he
 ·omega
theorem ve {P:Program} {t e:TypeId} (h:P.underlying t=some (.slice e)):P.elem t=e:=by simp [Program.elem,h]
theorem aM {a b:Nat} (h:Nat.beq a b=true):a=b:=Nat.eq_of_beq_eq_true h
theorem uS {P:Program} (w:World) (t:TypeId) (s:ByteArray) (ht:P.underlying t=some .string) (kl kh:IntKind) (l h:Int) (h0:0<=l) (h1:l<=h) (h2:h<=s.size) :
  (Instr.slice t (.string s) (some (.int kl l)) (some (.int kh h)) none).run P w= .ok (.string (s.extract l.toNat h.toNat)) w:=by
 have eh:(h.toNat:Int)=h:=Int.toNat_of_nonneg (by omega)
 simp [Instr.slice,run_underlying ht,Instr.sliceBounds,run_sliceBound,h0,h1,h2,eh,(by omega:0<=h)]
theorem JB (m:Lk) (x:Cv) (hx:∀ a,x≠ .s a) (lo hi:Option Int):m.o0 (.c x) lo hi=match (m.vw x).len with
  | none=> .no
  | some n=>match lo,hi with
   | none,none=> .r0 (.c x)
   | some l,none=> .r (decide (0<=l)&&decide (l<=(n:Int))) (Hw x l.toNat (n-l.toNat))
   | none,some h=> .r (decide (0<=h)&&decide (h<=(n:Int))) (Hw x 0 h.toNat)
   | some l,some h=> .r (decide (0<=l)&&(decide (l<=h)&&decide (h<=(n:Int)))) (Hw x l.toNat (h.toNat-l.toNat)):=by
 cases x<;>first | (exact absurd rfl (hx _)) | rfl
theorem N9 (hm:Le m M) (hR:Rel X M γ w) {t:TypeId} {x:AV} {xv:Value} (hx:bq M γ x xv) {lo hi:Option Int} {kl kh:IntKind} {v:AV} (Nl:m.km X.P t x=true)
  (h:Good (m.o0 x lo hi) v) :
  ∃ u,(Instr.sliceAt t xv (lo.map (.int kl)) (hi.map (.int kh)) none).run X.P w= .ok u w/\bq M γ v u:=by
 have main:∀ x:Cv,x≠ .un->(∀ a,x≠ .s a)->bu M γ x xv->m.km X.P t (.c x)=true->Good (m.o0 (.c x) lo hi) v ->
   ∃ u,(Instr.sliceAt t xv (lo.map (.int kl)) (hi.map (.int kh)) none).run X.P w= .ok u w/\bq M γ v u:=by
  intro x Gk hns hx Nl h
  have hc:(match (m.vw x).ty with | some τ=>Nat.beq (sz τ) (Bm X.P t) | none=>false)=true:=by
   revert Nl; cases x<;>first | (exact absurd rfl (hns _)) | exact id
  rw [JB m x hns] at h
  cases Tq:(m.vw x).ty with
  | none=>simp [Tq] at hc
  | some τ =>
   simp only [Tq] at hc
   obtain ⟨e,i,he,sx,hs⟩:=H6 (aM hc).symm (o6 τ)
   have het:X.P.underlying t=some (.slice (X.P.elem t)):=by rw [ve he]; exact he
   have r9:∀ w,(sizeOf (X.P.elem t)).run X.P w= .ok (sz τ) w:=fun w=>by rw [ve he,o7 sx w,hs]
   cases hlen:(m.vw x).len with
   | none=>simp [hlen,Good] at h
   | some n =>
    simp only [hlen] at h
    rw [run_sliceAt_slice w t _ _ _ _ het]
    cases lo with
    | none =>
     cases hi with
     | none =>
      simp only [Good,Out.r0.injEq,reduceCtorEq,or_false] at h; subst h
      rcases ue hm hR hx hlen with ⟨rfl,rfl⟩ | ⟨g,o,cap,rfl,hn⟩
      ·exact ⟨_,by simp only [Option.map]; rw [run_slice_all w t _ _ _ het,r9]; simp [sliced],bq.of hx⟩
      ·exact ⟨_,by simp only [Option.map]; rw [run_slice_all w t _ _ _ het,r9]; simp [sliced,jC],bq.of hx⟩
     | some hh =>
      simp only [Good,Out.r.injEq,reduceCtorEq,false_or,zB,zD] at h
      obtain ⟨⟨h0,h1⟩,rfl⟩:=h
      obtain ⟨a,cap,rfl,hn,hr⟩:=E0 hm hR hx hlen Tq (l:=0) (k:=hh.toNat) (by omega)
      exact ⟨_,by simp only [Option.map]; rw [run_slice_h w t _ _ _ het _ _ h0 (by omega),r9]; rfl,by simpa using hr⟩
    | some l =>
     cases hi with
     | none =>
      simp only [Good,Out.r.injEq,reduceCtorEq,false_or,zB,zD] at h
      obtain ⟨⟨h0,h1⟩,rfl⟩:=h
      obtain ⟨a,cap,rfl,hn,hr⟩:=E0 hm hR hx hlen Tq (l:=l.toNat) (k:=n-l.toNat) (by omega)
      exact ⟨_,by simp only [Option.map]; rw [run_slice_l w t _ _ _ het _ _ h0 (by omega),r9]; rfl,by rw [show l.toNat+(n-l.toNat)=n by omega] at hr; exact hr⟩
     | some hh =>
      simp only [Good,Out.r.injEq,reduceCtorEq,false_or,zB,zD] at h
      obtain ⟨⟨h0,h1,h2⟩,rfl⟩:=h
      obtain ⟨a,cap,rfl,hn,hr⟩:=E0 hm hR hx hlen Tq (l:=l.toNat) (k:=hh.toNat-l.toNat) (by omega)
      exact ⟨_,by simp only [Option.map]; rw [run_slice_lh w t _ _ _ het _ _ _ _ h0 h1 (by omega),r9]; rfl,by rw [show l.toNat+(hh.toNat-l.toNat)=hh.toNat by omega] at hr; exact hr⟩
 cases x with
 | c x =>
  cases x with
  | s a =>
   have hx:xv= .string a:=hx
   subst hx
   have qd:X.P.underlying t=some .string:=by
    revert Nl; simp only [Lk.km,isStr]; split
    ·exact fun _=>by assumption
    ·simp
   rw [run_sliceAt_string w t _ _ _ _ qd]
   cases lo with
   | none =>
    cases hi with
    | none =>
     simp only [Good,Lk.o0,Out.r0.injEq,reduceCtorEq,or_false] at h; subst h
     exact ⟨_,by simp only [Option.map]; rw [run_slice_string_all w t a qd],rfl⟩
    | some hh =>
     simp only [Good,Lk.o0,Out.r.injEq,reduceCtorEq,false_or,zB,zD] at h
     obtain ⟨⟨h0,h1⟩,rfl⟩:=h
     exact ⟨_,by simp only [Option.map]; rw [run_slice_string_h w t a qd _ _ h0 h1],rfl⟩
   | some l =>
    cases hi with
    | none =>
     simp only [Good,Lk.o0,Out.r.injEq,reduceCtorEq,false_or,zB,zD] at h
     obtain ⟨⟨h0,h1⟩,rfl⟩:=h
     exact ⟨_,by simp only [Option.map]; rw [run_slice_string_l w t a qd _ _ h0 h1],rfl⟩
    | some hh =>
     simp only [Good,Lk.o0,Out.r.injEq,reduceCtorEq,false_or,zB,zD] at h
     obtain ⟨⟨h0,h1,h2⟩,rfl⟩:=h
     exact ⟨_,by simp only [Option.map]; rw [uS w t a qd _ _ _ _ h0 h1 h2],rfl⟩
  | un=>simp [Lk.km,Lk.vw,Vw.ty] at Nl
  | _=>exact main _ (by simp) (by simp) hx Nl h
 | _=>simp [Lk.km] at Nl
theorem OU (hm:Le m M) (hR:Rel X M γ w) {t:TypeId} {x:Cv} {xv:Value} (hx:bu M γ x xv) {i:Int} {k:IntKind} {v:AV} (h:Good (m.q7 x i (Bm X.P t)) v) :
  ∃ u,(Instr.indexAt t xv (.int k i)).run X.P w= .ok u w/\bq M γ v u:=by
 have idx:∀ (τ:Ty) (g o n cap:Nat),Nat.beq (sz τ) (Bm X.P t)=true->0<=i->i<(n:Int) ->
   (Instr.indexAt t (.slice (some ⟨g,o,none⟩) n cap) (.int k i)).run X.P w= .ok (.pointer (some ⟨g,o+i.toNat*sz τ,none⟩)) w:=by
  intro τ g o n cap hz h0 h1
  obtain ⟨e,inf,he,sx,hs⟩:=H6 (aM hz).symm (o6 τ)
  simp [Instr.indexAt,asIntOf,run_underlying he,h0,h1,o7 sx,hs,jC]
 cases x with
 | sw r =>
  simp only [Lk.q7,Lk.vw] at h
  cases hr:m.r r with
  | none=>simp [hr,Good] at h
  | some row =>
   simp only [hr] at h
   cases hz:Nat.beq (sz row.τ) (Bm X.P t) with
   | false=>simp [hz,Good] at h
   | true =>
    simp only [hz,Good,Out.r.injEq,reduceCtorEq,false_or,aZ,zB,zD] at h
    obtain ⟨⟨h0,h1⟩,rfl⟩:=h
    have hs:=ue hm hR hx (n:=row.xs.length) (by simp [Lk.vw,hr,Vw.len])
    rcases hs with ⟨_,hn⟩ | ⟨g,o,cap,rfl,hn⟩
    ·omega
    ·refine ⟨_,idx row.τ g o _ cap hz h0 h1,row,hm.r r row hr,by omega,g,o,row.xs.length,cap,hx.2.symm,by simp⟩
 | sl r off len =>
  simp only [Lk.q7,Lk.vw] at h
  cases hr:m.r r with
  | none=>simp [hr,Good] at h
  | some row =>
   simp only [hr] at h
   cases hz:Nat.beq (sz row.τ) (Bm X.P t) with
   | false=>simp [hz,Good] at h
   | true =>
    simp only [hz,Good,Out.r.injEq,reduceCtorEq,false_or,aZ,zB,zD] at h
    obtain ⟨⟨h0,h1⟩,rfl⟩:=h
    obtain ⟨row',cC,hle,sr⟩:=hx
    rw [hm.r r row hr] at cC; cases cC
    rcases sr with ⟨_,_,hn⟩ | ⟨g,o,n',cap,o',cap',hb,rfl,WS,_,_,ho⟩
    ·omega
    ·refine ⟨_,idx row.τ g o' len cap' hz h0 h1,row,hm.r r row hr,by omega,g,o,n',cap,hb,?_⟩
     rcases ho with ho | ho
     ·omega
     ·rw [ho,Nat.add_mul]; simp [Nat.add_assoc]
 | nw r e c =>
  simp only [Lk.q7,Lk.vw,iC] at h
  cases hr:m.r r with
  | none=>simp [hr,Good] at h
  | some row =>
   have Al:=hx
   obtain ⟨row',τ',ys,cC,he,hc,hu⟩:=hx
   rw [hm.r r row hr] at cC; cases cC
   simp only [hr,hc] at h
   cases hz:Nat.beq (sz τ') (Bm X.P t) with
   | false=>simp [hz,Good] at h
   | true =>
    simp only [hz,Good,Out.r.injEq,reduceCtorEq,false_or,aZ,zB,zD] at h
    obtain ⟨⟨h0,h1⟩,rfl⟩:=h
    have hs:=ue hm hR Al (n:=ys.length) (by simp [Lk.vw,hr,iC,hc,Vw.len])
    rcases hs with ⟨_,hn⟩ | ⟨g,o,cap,rfl,hn⟩
    ·omega
    ·exact ⟨_,idx τ' g o _ cap hz h0 h1,row,τ',ys,_,hm.r r row hr,he,hc,hu,by omega,g,o,_,cap,rfl,by simp⟩
 | ns r e c off len =>
  simp only [Lk.q7,Lk.vw,iC] at h
  cases hr:m.r r with
  | none=>simp [hr,Good] at h
  | some row =>
   obtain ⟨row',τ',ys,u,cC,he,hc,hu,hle,sr⟩:=hx
   rw [hm.r r row hr] at cC; cases cC
   simp only [hr,hc] at h
   cases hz:Nat.beq (sz τ') (Bm X.P t) with
   | false=>simp [hz,Good] at h
   | true =>
    simp only [hz,Good,Out.r.injEq,reduceCtorEq,false_or,aZ,zB,zD] at h
    obtain ⟨⟨h0,h1⟩,rfl⟩:=h
    rcases sr with ⟨_,_,hn⟩ | ⟨g,o,n',cap,o',cap',hb,rfl,WS,_,_,ho⟩
    ·omega
    ·refine ⟨_,idx τ' g o' len cap' hz h0 h1,row,τ',ys,u,hm.r r row hr,he,hc,hu,by omega,g,o,n',cap,hb,?_⟩
     rcases ho with ho | ho
     ·omega
     ·rw [ho,Nat.add_mul]; simp [Nat.add_assoc]
 | _=>simp [Lk.q7,Good] at h
theorem OB {t:TypeId} {f n:Nat} {a:Cv} {av:Value} (ha:bu M γ a av) (hf:yb X.P t f=some n) (hz:Nat.beq (gj X.P (C1 X.P t f)) 0=false) (Gk:JT a n≠ .un) :
  ∃ u,(Instr.fieldAt t av f).run X.P w= .ok u w/\bu M γ (JT a n) u:=by
 obtain ⟨fs,x,hu,hx,rfl⟩:∃ fs x,X.P.underlying t=some (.struct fs)/\fs[f]? =some x/\x.offset=n:=by
  revert hf; simp only [yb]; split
  ·rename_i fs Rx
   split
   ·rename_i x hx; intro h; exact ⟨fs,x,Rx,hx,by simpa using h⟩
   ·simp
  ·simp
 have Tq:C1 X.P t f=x.type:=by simp [C1,hu,hx]
 have mH:∃ i,X.P.info? x.type=some i/\i.size≠0:=by
  rw [Tq] at hz
  simp only [gj] at hz
  cases hi:X.P.info? x.type with
  | none=>simp [hi] at hz
  | some i=>exact ⟨i,rfl,fun h0=>by rw [hi] at hz; simp [h0] at hz⟩
 obtain ⟨i,hi,Kb⟩:=mH
 have run:∀ a:Addr,(Instr.fieldAt t (.pointer (some a)) f).run X.P w= .ok (.pointer (some (a.add x.offset))) w:=by
  intro a
  simp [Instr.fieldAt,run_underlying hu,hx,Instr.sureAddr,fieldPlace,o7 hi,Kb]
 cases a with
 | pv k c =>
  obtain ⟨h1,rfl⟩:=ha
  exact ⟨_,run _,h1,by rw [jC]⟩
 | pe r e c =>
  obtain ⟨row,h1,h2,g,o,n,cap,h3,rfl⟩:=ha
  exact ⟨_,run _,row,h1,h2,g,o,n,cap,h3,by rw [jC]; simp [Nat.add_assoc]⟩
 | pn r e c k d =>
  obtain ⟨row,τ,ys,u,h1,h2,h3,h4,h5,g,o,n,cap,h6,rfl⟩:=ha
  exact ⟨_,run _,row,τ,ys,u,h1,h2,h3,h4,h5,g,o,n,cap,h6,by rw [jC]; simp [Nat.add_assoc]⟩
 | _=>simp [JT] at Gk
theorem cj.length {l:List Cv} {u:List Value} (h:cj M γ l u):l.length=u.length:=by
 induction h with
 | nil=>rfl
 | cons _ _ ih=>simp [ih]
theorem cj.drop {l:List Cv} {u:List Value} (h:cj M γ l u):∀ n,cj M γ (l.drop n) (u.drop n):=by
 induction h with
 | nil=>intro n; simpa using cj.nil
 | cons hx hl ih=>intro n; cases n with
  | zero=>exact .cons hx hl
  | succ n=>simpa using ih n
theorem cj.take {l:List Cv} {u:List Value} (h:cj M γ l u):∀ n,cj M γ (l.take n) (u.take n):=by
 induction h with
 | nil=>intro n; simpa using cj.nil
 | cons hx hl ih=>intro n; cases n with
  | zero=>exact .nil
  | succ n=>simpa using cj.cons hx (ih n)
theorem cj.append {l l':List Cv} {u u':List Value} (h:cj M γ l u) (h':cj M γ l' u'):cj M γ (l++l') (u++u'):=by
 induction h with
 | nil=>exact h'
 | cons hx hl ih=>exact .cons hx ih
theorem cj.get {l:List Cv} {u:List Value} (h:cj M γ l u) {i:Nat} {x:Cv} (hx:l[i]? =some x):∃ v,u[i]? =some v/\bu M γ x v:=by
 induction h generalizing i with
 | nil=>simp at hx
 | cons Al hl ih=>cases i with
  | zero=>simp at hx; subst hx; exact ⟨_,rfl,Al⟩
  | succ i=>exact ih hx
theorem cj.vH {l:List Cv}:∀ {u:List Value},l.length=u.length->(∀ (i:Nat) (x:Cv) (v:Value),l[i]? =some x->u[i]? =some v->bu M γ x v)->cj M γ l u:=by
 induction l with
 | nil=>intro u hl _; cases u with | nil=>exact .nil | cons=>simp at hl
 | cons x l ih=>intro u hl h; cases u with
  | nil=>simp at hl
  | cons v u=>exact .cons (h 0 x v rfl rfl) (ih (by simpa using hl) fun i x v hx hv=>h (i+1) x v hx hv)
theorem Cz {g o:Nat} {cur:Array Value} {e:TypeId} {fz:Nat×Nat} (h:w.heap[g]? =some (.cells cur e fz)) (i:Nat):w.cell? ⟨g,i,none⟩=cur[i]? :=by
 simp [World.cell?,h]
theorem As.cell {A:Nat->Prop} {z:Nat} {v:Value} {n:Nat} {cs:List Value} (h:As A w z v n cs) {g o n' cap:Nat} (hv:v= .slice (some ⟨g,o,none⟩) n' cap) {i:Nat} {u:Value}
  (hu:cs[i]? =some u):w.cell? ⟨g,o+i,none⟩=some u:=by
 rcases h.2 with ⟨hn,_⟩ | ⟨g1,o1,cap1,cur,e,fz,Ij,hg,_,_,mH,ht⟩
 ·rw [hn] at hv; cases hv
 ·rw [Ij] at hv
  obtain ⟨rfl,rfl⟩:g1=g/\o1=o:=by
   injection hv with h1 _ _; injection h1 with h1; injection h1 with h1 h2 _; exact ⟨h1,h2⟩
  have hi:i<n*z:=by
   have:=(zU.1 hu).1
   rwa [h.1] at this
  rw [Cz (o:=0) hg,← hu,← ht,List.getElem?_take,if_pos hi,List.getElem?_drop,Array.getElem?_toList]
theorem EC (r e:Nat):∀ (l:List Ct) (c i:Nat),(sC r e c l)[i]? =(l[i]?).map (Yk r e (c+i)):=by
 intro l
 induction l with
 | nil=>intro c i; simp [sC]
 | cons x l ih=>intro c i; cases i with
  | zero=>simp [sC]
  | succ i=>simp [sC,ih,Nat.add_assoc,Nat.add_comm 1]
theorem wR (r e:Nat):∀ (l:List Ct) (c:Nat),(sC r e c l).length=l.length:=by
 intro l
 induction l with
 | nil=>intro c; rfl
 | cons x l ih=>intro c; simp [sC,ih]
theorem MU (hR:Rel X M γ w) {r e:Nat} {row:Row} (hr:M.r r=some row) (he:e<row.xs.length) :
  cj M γ (sC r e 0 (row.cs e)) (((γ.cv r).drop (e*sz row.τ)).take (sz row.τ)):=by
 have hl:(γ.cv r).length=row.xs.length*sz row.τ:=(hR.rs r row hr).top.Aa.1
 have hle:(e+1)*sz row.τ<=row.xs.length*sz row.τ:=zP _ he
 rw [Nat.add_mul] at hle
 have NU:(row.cs e).length=sz row.τ:=bf _ _
 apply cj.vH
 ·rw [wR,NU,List.length_take,List.length_drop]; omega
 ·intro i x v hx hv
  rw [EC,Nat.zero_add] at hx
  cases hc:(row.cs e)[i]? with
  | none=>simp [hc] at hx
  | some ct =>
   simp [hc] at hx; subst hx
   obtain ⟨u,hu,LL⟩:=(hR.rs r row hr).rU e i ct he hc
   have hi:i<sz row.τ:=by have:=(zU.1 hc).1; rwa [NU] at this
   have:v=u:=by
    rw [List.getElem?_take,if_pos hi,List.getElem?_drop,hu] at hv; exact (Option.some.inj hv).symm
   subst this
   cases ct with
   | u=>exact LL.elim
   | l τ ys=>exact ⟨row,τ,ys,hr,he,hc,hu⟩
   | _=>exact LL
theorem JY {τ:Ty} (hd:τ.deep=false) (y:El τ):cj M γ (sC 0 0 0 (cells τ y)) ((cells τ y).map gJ):=by
 apply cj.vH
 ·rw [wR,List.length_map]
 ·intro i x v hx hv
  rw [EC] at hx
  rw [List.getElem?_map] at hv
  cases hc:(cells τ y)[i]? with
  | none=>simp [hc] at hx
  | some ct =>
   simp [hc] at hx hv; subst hx; subst hv
   have hm:=List.mem_of_getElem? hc
   cases ct with
   | u=>exact absurd hm (yT _)
   | l σ ys=>exact absurd rfl (oV hd _ _ hm σ ys)
   | _=>rfl
theorem Lt (hm:Le m M) (hR:Rel X M γ w) {a:Cv} {av:Value} (ha:bu M γ a av) {cs:List Cv} (h:m.from a=some cs) :
  ∃ g o us,av= .pointer (some ⟨g,o,none⟩)/\cj M γ cs us/\∀ j u,us[j]? =some u->w.cell? ⟨g,o+j,none⟩=some u:=by
 cases a with
 | pv k c =>
  simp only [Lk.from] at h
  cases hv:m.v k with
  | none=>simp [hv] at h
  | some cells =>
   simp only [hv,zA] at h; subst h
   obtain ⟨_,rfl⟩:=ha
   obtain ⟨_,cur,e,hg,po⟩:=hR.vs k cells (hm.v k cells hv)
   refine ⟨_,_,cur.toList.drop c,rfl,po.drop c,fun j u hu=> ?_⟩
   rw [Cz (o:=0) hg]; simpa using hu
 | pe r e c =>
  simp only [Lk.from] at h
  cases hr:m.r r with
  | none=>simp [hr] at h
  | some row =>
   simp only [hr,zA] at h; subst h
   obtain ⟨row',cC,he,g,o,n,cap,hb,rfl⟩:=ha
   have fU:=hm.r r row hr
   rw [fU] at cC; cases cC
   refine ⟨_,_,_,rfl,(MU hR fU he).drop c,fun j u hu=> ?_⟩
   rw [List.getElem?_drop,List.getElem?_take] at hu
   split at hu
   ·rw [List.getElem?_drop] at hu
    have:=(hR.rs r row fU).top.Aa.cell hb hu
    rw [← this]; congr 2; omega
   ·cases hu
 | pn r e c k d =>
  simp only [Lk.from,Lk.vw,iC] at h
  cases hr:m.r r with
  | none=>simp [hr] at h
  | some row =>
   obtain ⟨row',τ',ys,u,cC,he,hc,hu,hk,g,o,n,cap,hb,rfl⟩:=ha
   have fU:=hm.r r row hr
   rw [fU] at cC; cases cC
   simp only [hr,hc] at h
   obtain ⟨u',pg,hd,hs⟩:=(hR.rs r row fU).rU e c _ he hc
   rw [hu] at pg; cases pg
   simp only [hd,zA] at h; subst h
   refine ⟨_,_,_,rfl,(JY hd _).drop d,fun j v hv=> ?_⟩
   rw [List.getElem?_drop,List.getElem?_map] at hv
   cases dk:(cells τ' (ys.getD k (cy τ')))[d+j]? with
   | none=>rw [dk] at hv; simp at hv
   | some ct =>
    have Ze:d+j<sz τ':=by have:=(zU.1 dk).1; rwa [bf] at this
    have hf:=fF τ' ys k (d+j) hk Ze
    rw [dk] at hf hv
    simp at hv; subst hv
    have:=hs.Aa.cell hb hf
    rw [← this]; congr 2; omega
 | _=>simp [Lk.from] at h
theorem zi {P:Program} {t:TypeId} {d:TypeDesc} (h:P.underlying t=some d):∃ i,P.info? t=some i:=by
 cases hi:P.info? t with
 | some i=>exact ⟨i,rfl⟩
 | none=>exfalso; revert h; simp [Program.underlying,hi]
theorem Hv {P:Program} {t:TypeId} {w:World} {i:TypeInfo} (hi:P.info? t=some i) (hu:∃ d,P.underlying t=some d):(isAgg t).run P w= .ok (AT P t) w:=by
 obtain ⟨d,hd⟩:=hu
 simp only [isAgg,Sem.run_bind,run_underlying hd,Result.andThen_ok,AT,hd]
 cases d<;>rfl
theorem HF {P:Program} {t:TypeId} (h:De P t=true):(∃ d,P.underlying t=some d)/\(AT P t=false->gj P t=1):=by
 simp only [De] at h
 simp only [AT]
 cases hd:P.underlying t with
 | none=>simp [hd] at h
 | some d =>
  refine ⟨⟨d,rfl⟩,fun ha=> ?_⟩
  rw [hd] at h
  cases d<;>first | (exact aM h) | (simp at ha)
theorem K8 (hm:Le m M) (hR:Rel X M γ w) {t:TypeId} {a:Cv} {av:Value} (ha:bu M γ a av) {cs:List Cv} (h:m.from a=some cs) (hz:Nat.ble (gj X.P t) cs.length=true)
  (V7:De X.P t=true):∃ u,(Instr.loadAt t av).run X.P w= .ok u w/\bq M γ (U7 (AT X.P t) (cs.take (gj X.P t))) u:=by
 obtain ⟨g,o,us,rfl,po,eO⟩:=Lt hm hR ha h
 obtain ⟨⟨d,hd⟩,ib⟩:=HF V7
 obtain ⟨i,hi⟩:=zi hd
 have mH:gj X.P t=i.size:=by simp [gj,hi]
 have hz:gj X.P t<=cs.length:=zQ hz
 rw [mH] at hz ib ⊢
 have hlen:=po.length
 simp only [Instr.loadAt,Instr.sureAddr,loadVar,Sem.run_bind,Sem.run_pure,Result.andThen_ok,Hv hi ⟨d,hd⟩]
 cases NT:AT X.P t with
 | true =>
  simp only [if_true,Sem.run_bind,o7 hi,Result.andThen_ok]
  have LI:(loadCells ⟨g,o,none⟩ i.size).run X.P w= .ok (us.take i.size).toArray w:=by
   have:=run_loadCells_list (P:=X.P) w ⟨g,o,none⟩ (us.take i.size) (fun j v hj=>by
    rw [jC]
    rw [List.getElem?_take] at hj
    split at hj
    ·exact eO j v hj
    ·cases hj)
   rwa [show (us.take i.size).length=i.size by rw [List.length_take]; omega] at this
  rw [LI]
  exact ⟨_,rfl,_,rfl,po.take _⟩
 | false =>
  simp only [Bool.false_eq_true,if_false]
  have h1:=ib NT
  rw [h1] at hz ⊢
  cases us with
  | nil=>simp at hlen; subst hlen; simp at hz
  | cons u us =>
   cases po with
   | cons hx hl =>
    refine ⟨u,?_,bq.of hx⟩
    have:=eO 0 u rfl
    rw [Nat.add_zero] at this
    simp [this]
theorem xl.one {v:Value} {n:Nat} (h:xl v n):v.oneCell'=true:=by
 rcases h with ⟨rfl,rfl⟩ | ⟨g,o,cap,rfl,_⟩<;>rfl
theorem bu.one (hR:Rel X M γ w) {x:Cv} {v:Value} (h:bu M γ x v):v.oneCell'=true:=by
 cases x with
 | un=>exact h
 | b x=>have h:v=_:=h; subst h; rfl
 | i k n=>have h:v=_:=h; subst h; rfl
 | s x=>have h:v=_:=h; subst h; rfl
 | nl τ=>have h:v=_:=h; subst h; rfl
 | sw r=>obtain ⟨⟨row,hr⟩,rfl⟩:=h; exact (hR.rs r row hr).top.Aa.Jd.one
 | sl r off len=>obtain ⟨_,_,_,hs⟩:=h; exact (xl.sub (n:=0) hs).one
 | nw r e c =>
  obtain ⟨row,τ,ys,hr,he,hc,hu⟩:=h
  obtain ⟨u',pg,eO⟩:=(hR.rs r row hr).rU e c _ he hc
  rw [hu] at pg; cases pg
  exact eO.2.Aa.Jd.one
 | ns r e c off len=>obtain ⟨_,_,_,_,_,_,_,_,_,hs⟩:=h; exact (xl.sub (n:=0) hs).one
 | pv k c=>obtain ⟨_,rfl⟩:=h; rfl
 | pe r e c=>obtain ⟨_,_,_,_,_,_,_,_,rfl⟩:=h; rfl
 | pn r e c k d=>obtain ⟨_,_,_,_,_,_,_,_,_,_,_,_,_,_,rfl⟩:=h; rfl
 | fn f caps=>obtain ⟨_,rfl⟩:=h; rfl
theorem D1 {v:Value} (h:v.oneCell'=true):v.cells= #[v]:=by cases v<;>first | rfl | simp [Value.oneCell'] at h
theorem qq (hR:Rel X M γ w) {x:AV} {v:Value} {cs:List Cv} (hx:bq M γ x v) (h:x.cells=some cs):cj M γ cs v.cells.toList:=by
 cases x with
 | c y =>
  have:y≠ .un/\cs=[y]:=by cases y<;>simp_all [AV.cells]
  obtain ⟨hy,rfl⟩:=this
  have hy:=bq.to hx hy
  rw [D1 (hy.one hR)]
  exact .cons hy .nil
 | a l =>
  simp only [AV.cells,zA] at h; subst h
  obtain ⟨us,rfl,hr⟩:=hx
  simpa [Value.cells] using hr
 | _=>simp [AV.cells] at h
theorem cj.one (hR:Rel X M γ w) {l:List Cv} {u:List Value} (h:cj M γ l u):∀ v∈u,v.oneCell'=true:=by
 induction h with
 | nil=>simp
 | cons hx hl ih=>intro v hv; rcases zI.1 hv with rfl | hv; exact hx.one hR; exact ih v hv
theorem MH {t:TypeId} {f n:Nat} {l:List Cv} {xv:Value} (hx:bq M γ (.a l) xv) (hf:yb X.P t f=some n)
  (hz:Nat.ble (n+gj X.P (C1 X.P t f)) l.length=true) (V7:De X.P (C1 X.P t f)=true) :
  ∃ u,(Instr.field t xv f).run X.P w= .ok u w/\bq M γ (U7 (AT X.P (C1 X.P t f)) ((l.drop n).take (gj X.P (C1 X.P t f)))) u:=by
 obtain ⟨fs,x,hu,Al,rfl⟩:∃ fs x,X.P.underlying t=some (.struct fs)/\fs[f]? =some x/\x.offset=n:=by
  revert hf; simp only [yb]; split
  ·rename_i fs Rx
   split
   ·rename_i x hx; intro h; exact ⟨fs,x,Rx,hx,by simpa using h⟩
   ·simp
  ·simp
 have Tq:C1 X.P t f=x.type:=by simp [C1,hu,Al]
 rw [Tq] at hz V7 ⊢
 obtain ⟨⟨d,hd⟩,ib⟩:=HF V7
 obtain ⟨i,hi⟩:=zi hd
 have mH:gj X.P x.type=i.size:=by simp [gj,hi]
 have hz:x.offset+gj X.P x.type<=l.length:=zQ hz
 rw [mH] at hz ib ⊢
 obtain ⟨us,rfl,po⟩:=hx
 have hlen:=po.length
 simp only [Instr.field,Sem.run_bind,run_underlying hu,Result.andThen_ok,Al,asAgg,Sem.run_pure,part,Hv hi ⟨d,hd⟩]
 cases NT:AT X.P x.type with
 | true =>
  simp only [if_true,Sem.run_bind,o7 hi,Result.andThen_ok,Sem.run_pure]
  refine ⟨_,rfl,((us.drop x.offset).take i.size),?_,(po.drop _).take _⟩
  congr 1
  apply Array.toList_inj.1
  simp [List.extract_eq_take_drop]
 | false =>
  simp only [Bool.false_eq_true,if_false]
  rw [ib NT] at hz ⊢
  have h2:=(po.drop x.offset)
  have h3:(l.drop x.offset).length=l.length-x.offset:=List.length_drop
  cases CP:l.drop x.offset with
  | nil=>rw [CP] at h3; simp at h3; omega
  | cons y rest =>
   rw [CP] at h2
   cases hdu:us.drop x.offset with
   | nil=>rw [hdu] at h2; cases h2
   | cons u us' =>
    rw [hdu] at h2
    cases h2 with
    | cons hy _ =>
     have:us[x.offset]? =some u:=by
      have:=congrArg (fun l=>l[0]?) hdu
      simpa [List.getElem?_drop] using this
     refine ⟨u,by simp [this],bq.of hy⟩
theorem RO {l:List (Bool×List Cv)} {us:List Value} (h:s8 M γ l us) {i:Nat} {p:Bool×List Cv} (hp:l[i]? =some p):∃ u,us[i]? =some u/\Pa M γ p u:=by
 induction h generalizing i with
 | nil=>simp at hp
 | cons hx hl ih=>cases i with
  | zero=>simp at hp; subst hp; exact ⟨_,rfl,hx⟩
  | succ i=>exact ih hp
theorem IE {l:List (Bool×List Cv)} {xv:Value} (hx:bq M γ (.t l) xv) {i:Nat} {b:Bool} {cs:List Cv} (h:nth l i=some (b,cs)) :
  ∃ u,(Instr.extract xv i).run X.P w= .ok u w/\bq M γ (U7 b cs) u:=by
 obtain ⟨us,rfl,hr⟩:=hx
 rw [iC] at h
 obtain ⟨u,hu,vs,hv,h1,h2⟩:=RO hr h
 refine ⟨u,by simp [Instr.extract,hu],?_⟩
 cases b with
 | true=>exact ⟨vs,h1 rfl,hv⟩
 | false =>
  have:=h2 rfl
  subst this
  cases hv with
  | cons hx hl=>cases hl; exact bq.of hx
theorem Tb {t ty:TypeId} {a:ByteArray} (ht:isStr X.P t=true):(Builtin.len_ #[t] (ty:TypeId) #[.string a]).run X.P w= .ok (.int .i64 a.size) w:=by
 have qd:X.P.underlying t=some .string:=by
  revert ht; simp only [isStr]; split
  ·exact fun _=>by assumption
  ·simp
 simp [Builtin.len_,run_underlying qd,goInt]
theorem SQ {t ty:TypeId} {a:Option Addr} {n cap:Nat} (ht:HP X.P t=true):(Builtin.len_ #[t] (ty:TypeId) #[.slice a n cap]).run X.P w= .ok (.int .i64 n) w:=by
 obtain ⟨e,he⟩:∃ e,X.P.underlying t=some (.slice e):=by
  revert ht; simp only [HP]; split
  ·exact fun _=>⟨_,by assumption⟩
  ·simp
 simp [Builtin.len_,run_underlying he,goInt]
theorem xl.slice {v:Value} {n:Nat} (h:xl v n):∃ a cap,v= .slice a n cap:=by
 rcases h with ⟨rfl,rfl⟩ | ⟨g,o,cap,rfl,_⟩
 ·exact ⟨_,_,rfl⟩
 ·exact ⟨_,_,rfl⟩
theorem Na {t:TypeId} {a:ByteArray} {k:IntKind} {i:Int} (ht:isStr X.P t=true) (hi:aZ i a.size=true):(Instr.index t (.string a) (.int k i)).run X.P w= .ok (.int .u8 (bt a i.toNat)) w:=by
 have qd:X.P.underlying t=some .string:=by
  revert ht; simp only [isStr]; split
  ·exact fun _=>by assumption
  ·simp
 simp only [aZ,zB,zD] at hi
 have h1:i.toNat<a.size:=by omega
 have h2:a[i.toNat]? =some a[i.toNat]:=getElem?_pos a i.toNat h1
 simp [Instr.index,asIntOf,run_underlying qd,hi.1,h2]
 have h3:i.toNat<a.data.size:=h1
 simp only [bt,Array.getD,dif_pos h3]
 rfl
theorem So {op:UnOp} {x:AV} {xv:Value} {v:AV} (hx:bq M γ x xv) (h:Good (W3 op x) v):∃ u,(Op.unary op xv).run X.P w= .ok u w/\bq M γ v u:=by
 cases op<;>cases x<;>try (simp [W3,Good] at h; done)
 case not.c x =>
  cases x<;>simp [W3,Good] at h
  subst h; have hx:xv= .bool _:=hx; subst hx; exact ⟨_,rfl,rfl⟩
 case neg.c x =>
  cases x<;>simp [W3,Good] at h
  subst h; have hx:xv= .int _ _:=hx; subst hx; exact ⟨_,rfl,by show _=_; simp⟩
theorem Gt {t u:TypeId} {k k':IntKind} {n:Int} {du dt:TypeDesc} (ht:X.P.underlying t=some dt) (hu:X.P.underlying u=some (.int k)) :
  (convert t u (.int k' n)).run X.P w= .ok (.int k (k.wrap n)) w:=by
 simp only [convert,Sem.run_bind,run_underlying ht,run_underlying hu,Result.andThen_ok]
 cases dt<;>rfl
theorem im {α:Type} (l m:List α) (c:Nat) (h:c+m.length<=l.length):(cY l c m).length=l.length:=by
 simp [cY]; omega
theorem cj.cY {l l':List Cv} {u u':List Value} (h:cj M γ l u) (h':cj M γ l' u') (c:Nat):cj M γ (Soft.cY l c l') (Soft.cY u c u'):=by
 simp only [Soft.cY,← h'.length]
 exact ((h.take _).append h').append (h.drop _)
theorem G8 (off:Nat):∀ (vs:List Value) (k:Nat) (acc:Array Value),off+k+vs.length<=acc.size ->
  ((vs.zipIdx k).foldl (fun cs (p:Value×Nat)=>cs.setIfInBounds (off+p.2) p.1) acc).toList=Soft.cY acc.toList (off+k) vs:=by
 intro vs
 induction vs with
 | nil=>intro k acc h; simp [Soft.cY]
 | cons v vs ih =>
  intro k acc h
  simp only [List.zipIdx_cons,List.foldl_cons,zR] at h ⊢
  rw [ih (k+1) _ (by simp; omega)]
  simp only [Soft.cY,Array.toList_setIfInBounds,zR]
  have h1:off+k<acc.toList.length:=by simp; omega
  apply List.ext_getElem?
  intro i
  simp only [List.getElem?_append,zK,List.length_take,List.length_set,zR,List.getElem?_take,List.getElem?_drop,List.getElem?_set]
  rcases Nat.lt_trichotomy i (off+k) with hi | hi | hi
  ·simp [show i<min (off+(k+1)) acc.toList.length by omega,show i<off+(k+1) by omega,show i<off+k by omega,show i<min (off+k) acc.toList.length by omega,show ¬ off+k=i by omega]
   grind
  ·subst hi
   simp [show off+k<min (off+(k+1)) acc.toList.length by omega,show ¬ off+k<min (off+k) acc.toList.length by omega]
   grind
  ·grind
theorem U5 {x:Cv} {v:Value} (h:XY x v=true):bu M γ x v:=by
 cases x<;>cases v<;>simp_all [XY,bu,Value.oneCell']
 case b x y=>cases x<;>cases y<;>simp_all [XY]
 case i k n k' n' =>
  obtain ⟨h1,h2⟩:=h
  have:=rz h1
  split at h2
  ·rename_i h3 h4; exact ⟨this.symm,rfl⟩
  ·cases h2
 case nl τ a n c =>
  revert h; cases a<;>cases n<;>cases c<;>simp [XY]
theorem SB {l:List Cv}:∀ {u:List Value},Nh l u=true->cj M γ l u:=by
 induction l with
 | nil=>intro u h; cases u with | nil=>exact .nil | cons=>simp [Nh] at h
 | cons x l ih=>intro u h; cases u with
  | nil=>simp [Nh] at h
  | cons v u=>simp only [Nh,zB] at h; exact .cons (U5 h.1) (ih h.2)
theorem K1 {t:TypeId} {cs:List Cv} (h:X.zero t=some cs):∃ i z,X.P.info? t=some i/\i.zero=some z/\cj M γ cs z.cells.toList:=by
 simp only [Ctx.zero] at h
 revert h; split
 ·rename_i cs' i h1 h2
  split
  ·rename_i z hz
   split
   ·rename_i hq; intro h; cases h; exact ⟨i,z,h2,hz,SB hq⟩
   ·simp
  ·simp
 ·simp
theorem R4 (hR:Rel X M γ w) {t:TypeId} {f:Operand->AV} (hf:∀ o,bq M γ (f o) (ρ o)) {place:Nat->Option (Nat×Nat)}
  (hp:∀ i off,yb X.P t i=some off->place i=some (off,gj X.P (C1 X.P t i))) :
  ∀ (parts:List (Nat×Operand)) (acc cs:List Cv) (zs:Array Value),cj M γ acc zs.toList->CF X t f parts acc=some cs ->
   ∃ arr,Instr.fill place zs (parts.map fun p=>(p.1,ρ p.2))=some arr/\cj M γ cs arr.toList:=by
 intro parts
 induction parts with
 | nil=>intro acc cs zs hz h; simp only [CF,zA] at h; subst h; exact ⟨zs,rfl,hz⟩
 | cons p parts ih =>
  obtain ⟨i,o⟩:=p
  intro acc cs zs hz h
  simp only [CF] at h
  cases ho:yb X.P t i with
  | none=>simp [ho] at h
  | some off =>
   cases hc:(f o).cells with
   | none=>simp [ho,hc] at h
   | some cs' =>
    simp only [ho,hc] at h
    cases h1:Nat.ble (off+cs'.length) acc.length with
    | false=>simp [h1] at h
    | true =>
     cases h2:Nat.beq cs'.length (gj X.P (C1 X.P t i)) with
     | false=>simp [h1,h2] at h
     | true =>
      simp only [h1,h2] at h
      have h1:=zQ h1
      have h2:=aM h2
      have hr:=qq hR (hf o) hc
      have hl:=hr.length
      have Gm:=hz.length
      simp only [Array.length_toList] at hl Gm
      simp only [List.map_cons,Instr.fill,hp i off ho]
      rw [if_neg (by simp; omega)]
      apply ih _ _ _ _ h
      have:=G8 off (ρ o).cells.toList 0 zs (by simp; omega)
      rw [Nat.add_zero] at this
      have e:(Array.foldl (fun cs (x:Value×Nat)=>cs.setIfInBounds (off+x.2) x.1) zs (ρ o).cells.zipIdx).toList=Soft.cY zs.toList off (ρ o).cells.toList:=by
       rw [← this,← Array.foldl_toList,Array.toList_zipIdx]
      rw [e]
      exact hz.cY hr off
theorem Eu {P:Program}:∀ (fs:List Field),HK P fs=true->fs.mapM (fun f=>(P.info? f.type).map fun i=>(f.offset,i.size))=some (fs.map fun f=>(f.offset,gj P f.type))
 | [],_=>rfl
 | f::fs,h=>by
  simp only [HK] at h
  cases hi:P.info? f.type with
  | none=>simp [hi] at h
  | some i =>
   simp only [hi] at h
   simp [List.mapM_cons,hi,Eu fs h,gj]
theorem Oe (hR:Rel X M γ w) {t:TypeId} {parts:Array (Nat×Operand)} {f:Operand->AV} (hf:∀ o,bq M γ (f o) (ρ o)) {zs cs:List Cv} (hz:X.zero t=some zs) (hp:R7 X.P t=true)
  (h:CF X t f parts.toList zs=some cs):∃ u,(Instr.build t (parts.map fun (i,x)=>(i,ρ x))).run X.P w= .ok u w/\bq M γ (.a cs) u:=by
 obtain ⟨i,z,hi,ZY,hr⟩:=K1 (M:=M) (γ:=γ) hz
 obtain ⟨fs,hu,LJ⟩:∃ fs,X.P.underlying t=some (.struct fs)/\HK X.P fs.toList=true:=by
  revert hp; simp only [R7]; split
  ·rename_i fs Rx; exact fun h=>⟨fs,Rx,h⟩
  ·simp
 have WD:∀ i off,yb X.P t i=some off->((fs.toList.map fun f=>(f.offset,gj X.P f.type)).toArray[i]?)=some (off,gj X.P (C1 X.P t i)):=by
  intro i off ho
  simp only [yb,hu] at ho
  cases hx:fs[i]? with
  | none=>simp [hx] at ho
  | some x =>
   simp only [hx,zA] at ho
   simp [C1,hu,hx,ho]
 obtain ⟨arr,ha,po⟩:=R4 hR hf WD parts.toList zs cs z.cells hr h
 refine ⟨.agg arr,run_build w t _ arr ?_,arr.toList,by simp,po⟩
 simp only [Program.built,hi,hu,ZY,Eu _ LJ]
 rw [← ha,Array.toList_map]
theorem R0 {S:St} {a:Act} (hT:∀ t av,lk S.tm t=some av->bq M γ av (a.tmps.getD t undef)) (p:List (Nat×Bool))
  (hp:∀ t p' q v,lk S.tm t=some (.g p' q v)->Bb p' p=true->q=true) (ty:TypeId) (o:Operand):bq M γ (X.yj S p ty o) (a.eval o):=by
 cases o with
 | tmp t =>
  simp only [Ctx.yj,St.get,Act.eval]
  cases h:lk S.tm t with
  | none=>exact trivial
  | some av =>
   have hr:=hT t av h
   cases av with
   | g p' q v =>
    simp only
    cases hi:Bb p' p with
    | true=>simp only [hi]; exact hr.1 (hp t p' q v h hi)
    | false=>simp only [hi]; exact trivial
   | _=>exact hr
 | const v =>
  simp only [Ctx.yj,Act.eval]
  cases v<;>simp only [Ctx.cst]<;>first | exact trivial | rfl | skip
  rename_i a n c
  cases a<;>try exact trivial
  cases n<;>cases c<;>try exact trivial
  cases hτ:X.Xt ty<;>simp only [hτ]<;>first | exact trivial | rfl
 | func f=>exact ⟨by simp,by simp [Act.eval]⟩
 | global g=>exact trivial
end Go.Soft
namespace Go.Soft
open Go
variable {X:Ctx} {m M:Lk} {γ:Gh} {w:World} {ρ:Operand->Value}
def Pure (X:Ctx) (M:Lk) (γ:Gh) (w:World) (ρ:Operand->Value) (o:Oper) (v:AV):Prop :=
 ∃ u,(Go.execOp ρ o).run X.P w= .ok (.value u) w/\bq M γ v u
theorem Pure.of {o:Oper} {v:AV} {s:Sem Value} (he:Go.execOp ρ o=(do let x←s; pure (.value x))) (h:∃ u,s.run X.P w= .ok u w/\bq M γ v u):Pure X M γ w ρ o v:=by
 obtain ⟨u,hu,hr⟩:=h
 exact ⟨u,by rw [he,Sem.run_bind,hu]; rfl,hr⟩
theorem PE {c:Bool} {v v':AV} (h:Good (.r c v') v):c=true/\v'=v:=by
 simpa [Good] using h
theorem dP {v v':AV} (h:Good (.r0 v') v):v'=v:=by
 simpa [Good] using h
theorem kJ {v:AV} (h:Good .no v):False:=by simp [Good] at h
theorem Om (hX:iH X) {op:BinOp} {t:TypeId} {x y:AV} {xo yo:Operand} {xv yv:Value} {v:AV} (hx:bq M γ x xv) (hy:bq M γ y yv)
  (h:Good (X.FK op t x y) v) :
  ∃ u,(do eqGuard op t xo yo xv yv; Go.binOp op t xv yv:Sem Value).run X.P w= .ok u w/\bq M γ v u:=by
 cases x with
 | c x =>
  cases x with
  | b a =>
   have hx:xv= .bool a:=hx
   subst hx
   simp only [Ctx.FK] at h
   cases ht:X.P.underlying t with
   | none=>simp [ht,Good] at h
   | some d=>cases d<;>first | exact S7 ht hy (by simpa [ht] using h) | (simp [ht,Good] at h)
  | i k a =>
   have hx:xv= .int k a:=hx
   subst hx
   simp only [Ctx.FK] at h
   cases y with
   | c y =>
    cases y with
    | i k' b =>
     have hy:yv= .int k' b:=hy
     subst hy
     cases hk:Gj k k' with
     | true=>have:=rz hk; subst this; exact Vz h
     | false=>exact OA hk h
    | _=>simp [m7,Good] at h
   | _=>simp [m7,Good] at h
  | s a =>
   have hx:xv= .string a:=hx
   subst hx
   simp only [Ctx.FK] at h
   cases y with
   | c y =>
    cases y with
    | s b=>have hy:yv= .string b:=hy; subst hy; exact Vt h
    | _=>simp [m7,Good] at h
   | _=>simp [m7,Good] at h
  | _=>simp [Ctx.FK,m7,Good] at h
 | a l =>
  simp only [Ctx.FK] at h
  cases ht:lk X.eqs t with
  | none=>rw [ht] at h; simp [Good] at h
  | some ks =>
   cases y with
   | a m =>
    simp only [ht] at h
    cases hk:nB ks l&&nB ks m with
    | false=>rw [hk] at h; simp [Good] at h
    | true =>
     rw [hk] at h
     simp only [zB] at hk
     exact VN hX ht hk.1 (fun m' e=>by cases e; exact hk.2) hx hy h
   | _=>simp [ht,Good] at h
 | _=>simp [Ctx.FK,m7,Good] at h
theorem xi {x:AV} {v:Value} {n:Int} (hx:bq M γ x v) (h:x.int=some n):∃ k,v= .int k n:=by
 cases x with
 | c y=>cases y<;>simp [AV.int] at h; subst h; exact ⟨_,hx⟩
 | _=>simp [AV.int] at h
theorem JV (xs:List UInt8):gu .byte xs=xs.map (Value.int .u8∘fun x=>(x.toNat:Int)):=by
 induction xs with
 | nil=>rfl
 | cons x xs ih=>simp only [gu,List.flatMap_cons] at ih ⊢; rw [ih]; rfl
theorem MJ (xs:List UInt8):(xs.map fun x=>(x.toNat:Int)).foldl (fun r n=>r.push (UInt8.ofNat n.toNat)) ByteArray.empty=⟨xs.toArray⟩:=by
 have:∀ (xs:List UInt8) (acc:List UInt8),(xs.map fun x=>(x.toNat:Int)).foldl (fun (r:ByteArray) n=>r.push (UInt8.ofNat n.toNat)) ⟨acc.toArray⟩=⟨(acc++xs).toArray⟩:=by
  intro xs
  induction xs with
  | nil=>intro acc; simp
  | cons x xs ih =>
   intro acc
   have h1:(ByteArray.push ⟨acc.toArray⟩ (UInt8.ofNat ((x.toNat:Int)).toNat))=⟨(acc++[x]).toArray⟩:=by
    simp [ByteArray.push]
   rw [List.map_cons,List.foldl_cons,h1,ih]
   simp
 exact this xs []
theorem Ph (hm:Le m M) (hR:Rel X M γ w) {a:Cv} {av:Value} (ha:bu M γ a av) {xs:List UInt8} (h:bytesOf (m.vw a)=some xs) :
  (Conv.bytesToString av).run X.P w= .ok (.string ⟨xs.toArray⟩) w:=by
 have dk:(m.vw a).ct=some (.l .byte xs):=by
  revert h; cases hv:m.vw a with
  | no=>simp [bytesOf]
  | w τ ys=>cases τ<;>simp [bytesOf,Vw.ct]
  | p τ ys off len=>cases τ<;>simp [bytesOf,Vw.ct]
 obtain ⟨⟨cs,mF⟩,_⟩:=BD hm hR ha dk
 have AJ:=mF.flat rfl
 rcases mF.top.2 with ⟨rfl,h0⟩ | ⟨g,o,cap,cur,e,fz,rfl,hg,_,_,mH,ht⟩
 ·cases xs with
  | nil=>rfl
  | cons=>simp at h0
 ·have je:cs=(xs.map fun x=>(x.toNat:Int)).map (Value.int .u8):=by
   rw [AJ,List.map_map]; exact JV xs
  have LI:=run_loadCells_list (P:=X.P) w ⟨g,o,none⟩ cs (fun j v hj=>by rw [jC]; exact mF.top.cell rfl hj)
  have hl:cs.length=xs.length:=by rw [je]; simp
  rw [hl] at LI
  rw [run_bytesToString w ⟨g,o,none⟩ xs.length cap _ (je▸LI)]
  congr 2
  exact MJ xs
theorem Sw (hm:Le m M) (hR:Rel X M γ w) {t u:TypeId} {x:AV} {xv:Value} {v:AV} (hx:bq M γ x xv) (h:Good (X.Lj m t u x) v) :
  ∃ y,(convert t u xv).run X.P w= .ok y w/\bq M γ v y:=by
 simp only [Ctx.Lj] at h
 revert h; split
 ·rename_i _ _ _ dt k k' n ht hu
  intro h; have:=dP h; subst this
  have hx:xv= .int _ _:=hx
  subst hx
  exact ⟨_,Gt (du:=dt) ht hu,rfl⟩
 ·rename_i _ _ _ e a ht hu
  split
  ·rename_i xs hb he
   intro h; have:=dP h; subst this
   have hr:=bq.to hx (by rintro rfl; simp [Lk.vw,bytesOf] at hb)
   obtain ⟨n,hlen⟩:∃ n,(m.vw a).len=some n:=by
    revert hb; cases m.vw a with
    | no=>simp [bytesOf]
    | w τ ys=>exact fun _=>⟨_,rfl⟩
    | p τ ys off len=>exact fun _=>⟨_,rfl⟩
   obtain ⟨a',cap,rfl⟩:=(ue hm hR hr hlen).slice
   refine ⟨_,?_,rfl⟩
   rw [run_convert_bytes_string w t u e _ _ _ ht he hu]
   exact Ph hm hR hr hb
  ·exact fun h=>(kJ h).elim
 ·exact fun h=>(kJ h).elim
theorem KP {f:Operand->AV} (hf:∀ o,bq M γ (f o) (ρ o)):∀ (l:List Operand) (vs:List Nat),yh f l=some vs ->
  l.map ρ=vs.map (fun k=>Value.pointer (some ⟨γ.vb k,0,none⟩))/\∀ k∈vs,∃ cs,M.v k=some cs
 | [],vs,h=>by simp only [yh,zA] at h; subst h; simp
 | o::l,vs,h=>by
  simp only [yh] at h
  revert h; split
  ·rename_i v r hv hr
   intro h; cases h
   obtain ⟨h1,h2⟩:=KP hf l r hr
   have:=hf o; rw [hv] at this
   obtain ⟨h3,h4⟩:=this
   simp [h1,h4,h3]
   exact h2
  ·simp
theorem ON {k:IntKind} (a b:Int):(Builtin.max2 (.int k a) (.int k b)).run X.P w= .ok (.int k (max a b)) w:=by
 simp only [Builtin.max2]
 show Result.ok _ _=_
 congr 2; split<;>omega
theorem PS {k:IntKind} (a b:Int):(Builtin.min2 (.int k a) (.int k b)).run X.P w= .ok (.int k (min a b)) w:=by
 simp only [Builtin.min2]
 show Result.ok _ _=_
 congr 2; split<;>omega
theorem Lm {f:Operand->AV} (hf:∀ o,bq M γ (f o) (ρ o)) {lo:Option Operand} {l:Option Int} (h:I0 f lo=some l):∃ k,lo.map ρ=l.map (Value.int k):=by
 cases lo with
 | none=>simp only [I0,zA] at h; subst h; exact ⟨.i64,rfl⟩
 | some o =>
  simp only [I0] at h
  cases hi:(f o).int with
  | none=>simp [hi] at h
  | some n =>
   simp only [hi,zA] at h; subst h
   obtain ⟨k,hk⟩:=xi (hf o) hi
   exact ⟨k,by simp [hk]⟩
theorem S9 {m:Lk} {τ:Ty} {d:Nat} {x y:Cv} {v:AV}:¬ Good (m.append τ d x y) v:=by
 intro h
 simp only [Lk.append] at h
 repeat' (first | (split at h) | (simp [Good] at h; done))
theorem MT {m:Lk} {x:Cv} {l:List Cv} {v:AV}:¬ Good (m.store x l) v:=by
 intro h
 simp only [Lk.store] at h
 repeat' (first | (split at h) | (simp [Good] at h; done))
theorem Oa {f:Int->Int->Int} {x y:AV} {xv yv:Value} {v:AV} (hx:bq M γ x xv) (hy:bq M γ y yv) (h:Good (WW f x y) v) :
  ∃ k a b,xv= .int k a/\yv= .int k b/\v= .c (.i k (f a b)):=by
 revert h; simp only [WW]; split
 ·rename_i k a k' b
  split
  ·rename_i hk
   have hk:=rz hk; subst hk
   exact fun h=>⟨k,a,b,hx,hy,(dP h).symm⟩
  ·exact fun h=>(kJ h).elim
 ·exact fun h=>(kJ h).elim
theorem Vq (hm:Le m M) (hR:Rel X M γ w) {t ty:TypeId} {x:AV} {xv:Value} {v:AV} (hx:bq M γ x xv) (h:Good (X.Jc m t x) v) :
  ∃ u,(Builtin.len_ #[t] ty #[xv]).run X.P w= .ok u w/\bq M γ v u:=by
 have gen:∀ a,bu M γ a xv->Good (Pz (HP X.P t) (m.vw a).len) v->∃ u,(Builtin.len_ #[t] ty #[xv]).run X.P w= .ok u w/\bq M γ v u:=by
  intro a hr h
  cases hl:(m.vw a).len with
  | none=>simp [hl,Pz,Good] at h
  | some n =>
   rw [hl] at h
   cases hs:HP X.P t with
   | false=>rw [hs] at h; exact (kJ h).elim
   | true =>
    rw [hs] at h
    have:=dP h; subst this
    obtain ⟨b,cap,rfl⟩:=(ue hm hR hr hl).slice
    exact ⟨_,SQ hs,rfl⟩
 cases x with
 | c a =>
  cases a with
  | s a =>
   have hx:xv= .string a:=hx
   subst hx
   cases hs:isStr X.P t with
   | false=>simp [Ctx.Jc,hs,Good] at h
   | true =>
    simp only [Ctx.Jc,hs] at h
    have:=dP h; subst this
    exact ⟨_,Tb hs,rfl⟩
  | un=>simp [Ctx.Jc,Lk.vw,Vw.len,Pz,Good] at h
  | _=>exact gen _ hx h
 | _=>simp [Ctx.Jc,Good] at h
theorem SO (hX:iH X) (hm:Le m M) (hR:Rel X M γ w) {evp:List (Nat×Bool)->TypeId->Operand->AV} (rS:∀ ty x,bq M γ (evp [] ty x) (ρ x))
  (WQ:∀ ty t x a b,evp [] ty (.tmp t)= .c (.b x)->(x=true->bq M γ (evp [(t,true)] ty a) (ρ a))/\(x=false->bq M γ (evp [(t,false)] ty b) (ρ b)))
  {d:Nat} {o:Oper} {v:AV} (h:Good (cd X evp m d o.type o.op) v):Pure X M γ w ρ o v:=by
 obtain ⟨dst,op,type,pos,aft,guard⟩:=o
 simp only at h
 cases op with
 | move x =>
  simp only [cd] at h; have:=dP h; subst this
  exact ⟨_,rfl,rS _ _⟩
 | assign x =>
  simp only [cd] at h; have:=dP h; subst this
  exact ⟨_,rfl,rS _ _⟩
 | pick c a b =>
  cases c with
  | tmp t =>
   simp only [cd] at h
   cases hc:evp [] type (.tmp t) with
   | c y =>
    cases y with
    | b x =>
     simp only [hc] at h
     have:=dP h; subst this
     have hb:=rS type (.tmp t); rw [hc] at hb
     have hb:ρ (.tmp t)= .bool x:=hb
     obtain ⟨h1,h2⟩:=WQ type t x a b hc
     refine ⟨bif x then ρ a else ρ b,by simp only [Go.execOp,Sem.run_bind,hb,asBool,Sem.run_pure,Result.andThen_ok]; cases x<;>rfl,?_⟩
     cases hu:evp [(t,true)] type a with
     | c u =>
      cases u with
      | b p =>
       cases hv:evp [(t,false)] type b with
       | c v =>
        cases v with
        | b q =>
         rw [hu] at h1; rw [hv] at h2
         cases x with
         | true=>exact h1 rfl
         | false=>exact h2 rfl
        | _=>exact trivial
       | _=>exact trivial
      | _=>exact trivial
     | _=>exact trivial
    | _=>simp [hc,Good] at h
   | _=>simp [hc,Good] at h
  | _=>simp [cd,Good] at h
 | build t parts =>
  simp only [cd] at h
  cases hz:X.zero t with
  | none=>simp [hz,Good] at h
  | some zs =>
   cases hp:R7 X.P t with
   | false=>simp [hz,hp,Good] at h
   | true =>
    cases hf:CF X t (evp [] type) parts.toList zs with
    | none=>simp [hz,hp,hf,Good] at h
    | some cs =>
     simp only [hz,hp,hf] at h
     have:=dP h; subst this
     exact Pure.of rfl (Oe hR (rS type) hz hp hf)
 | load t x =>
  simp only [cd] at h
  cases hx:evp [] type x with
  | c a =>
   simp only [hx] at h
   cases EI:m.from a with
   | none=>simp [EI,Good] at h
   | some cs =>
    simp only [EI] at h
    cases hz:Nat.ble (gj X.P t) cs.length&&De X.P t with
    | false=>simp [hz,Good] at h
    | true =>
     simp only [hz] at h
     have:=dP h; subst this
     simp only [zB] at hz
     have hr:=rS type x; rw [hx] at hr
     exact Pure.of rfl (K8 hm hR (bq.to hr (by rintro rfl; simp [Lk.from] at EI)) EI hz.1 hz.2)
  | _=>simp [hx,Good] at h
 | nilCheck x =>
  simp only [cd] at h
  have hr:=rS type x
  cases hx:evp [] type x with
  | c a =>
   rw [hx] at hr
   simp only [hx] at h
   cases a with
   | pv k c =>
    have:=dP h; subst this
    obtain ⟨h1,h2⟩:=hr
    exact ⟨ρ x,by simp only [Go.execOp,h2]; rfl,h1,h2⟩
   | pe r e c =>
    have:=dP h; subst this
    have cC:=hr
    obtain ⟨row,h1,h2,g,oo,n,cap,h3,h4⟩:=hr
    exact ⟨ρ x,by simp only [Go.execOp,h4]; rfl,cC⟩
   | pn r e c k d =>
    have:=dP h; subst this
    have cC:=hr
    obtain ⟨row,τ,ys,u,h1,h2,h3,h4,h5,g,oo,n,cap,h6,h7⟩:=hr
    exact ⟨ρ x,by simp only [Go.execOp,h7]; rfl,cC⟩
   | _=>simp [Good] at h
  | _=>simp [hx,Good] at h
 | binOp op t x y c =>
  simp only [cd] at h
  exact Pure.of rfl (Om hX (rS t x) (rS t y) h)
 | unOp op t x =>
  simp only [cd] at h
  exact Pure.of rfl (So (rS t x) h)
 | convert t u x =>
  simp only [cd] at h
  exact Pure.of rfl (Sw hm hR (rS t x) h)
 | makeFunc fn first caps =>
  cases fn with
  | func f =>
   simp only [cd] at h
   cases hs:first.size with
   | succ n=>simp [hs,Good] at h
   | zero =>
    cases hc:yh (evp [] type) caps.toList with
    | none=>simp [hs,hc,Good] at h
    | some vs =>
     simp only [hs,hc] at h
     have:=dP h; subst this
     obtain ⟨h1,h2⟩:=KP (rS type) _ _ hc
     have h0:first= #[]:=Array.eq_empty_of_size_eq_zero hs
     subst h0
     refine Pure.of rfl ⟨_,rfl,h2,?_⟩
     have e:caps.map ρ=(vs.map fun k=>Value.pointer (some ⟨γ.vb k,0,none⟩)).toArray:=by
      rw [← h1]
      apply Array.toList_inj.1
      rw [Array.toList_map]
     rw [e]; first | rfl | simp | (congr 1)
  | _=>simp [cd,Good] at h
 | slice t x lo hi mx =>
  simp only [cd] at h
  cases mx with
  | some _=>simp [Good] at h
  | none =>
   cases hl:I0 (evp [] type) lo with
   | none=>simp [hl,Good] at h
   | some l =>
    cases hh:I0 (evp [] type) hi with
    | none=>simp [hl,hh,Good] at h
    | some hb =>
     simp only [hl,hh] at h
     cases hc:m.km X.P t (evp [] t x) with
     | false=>simp [hc,Good] at h
     | true =>
      simp only [hc] at h
      obtain ⟨k1,e1⟩:=Lm (rS type) hl
      obtain ⟨k2,e2⟩:=Lm (rS type) hh
      obtain ⟨u,hu,hr⟩:=N9 hm hR (rS t x) (kl:=k1) (kh:=k2) hc h
      exact Pure.of rfl ⟨u,by rw [e1,e2]; exact hu,hr⟩
 | fieldAddr t x f =>
  simp only [cd] at h
  cases hx:evp [] type x with
  | c a =>
   cases hf:yb X.P t f with
   | none=>simp [hx,hf,Good] at h
   | some n =>
    cases hz:Nat.beq (gj X.P (C1 X.P t f)) 0 with
    | true=>simp only [hx,hf,hz] at h; exact (kJ h).elim
    | false =>
     simp only [hx,hf,hz] at h
     have hr:=rS type x; rw [hx] at hr
     have Gk:JT a n≠ .un:=by intro e; rw [e] at h; exact (kJ h).elim
     have hv:v= .c (JT a n):=by
      revert h; split
      ·exact fun h=>(kJ h).elim
      ·exact fun h=>(dP h).symm
     subst hv
     obtain ⟨u,hu,cC⟩:=OB (bq.to hr (by rintro rfl; simp [JT] at Gk)) hf hz Gk
     exact Pure.of rfl ⟨u,hu,bq.of cC⟩
  | _=>simp [hx,Good] at h
 | field t x f =>
  simp only [cd] at h
  cases hx:evp [] t x with
  | a l =>
   cases hf:yb X.P t f with
   | none=>simp [hx,hf,Good] at h
   | some n =>
    simp only [hx,hf] at h
    cases hz:Nat.ble (n+gj X.P (C1 X.P t f)) l.length&&De X.P (C1 X.P t f) with
    | false=>simp [hz,Good] at h
    | true =>
     simp only [hz] at h
     have:=dP h; subst this
     simp only [zB] at hz
     have hr:=rS t x; rw [hx] at hr
     exact Pure.of rfl (MH hr hf hz.1 hz.2)
  | _=>simp [hx,Good] at h
 | indexAddr t x i =>
  simp only [cd] at h
  cases hx:evp [] t x with
  | c a =>
   cases hi:(evp [] type i).int with
   | none=>simp [hx,hi,Good] at h
   | some n =>
    simp only [hx,hi] at h
    obtain ⟨k,hk⟩:=xi (rS type i) hi
    have hr:=rS t x; rw [hx] at hr
    obtain ⟨u,hu,cC⟩:=OU hm hR (k:=k) (bq.to hr (by rintro rfl; simp [Lk.q7,Good] at h)) h
    exact Pure.of rfl ⟨u,by rw [hk]; exact hu,cC⟩
  | _=>simp [hx,Good] at h
 | index t x i =>
  simp only [cd] at h
  cases hx:evp [] t x with
  | c a =>
   cases a with
   | s a =>
    cases hi:(evp [] type i).int with
    | none=>simp [hx,hi,Good] at h
    | some n =>
     simp only [hx,hi] at h
     cases hs:isStr X.P t with
     | false=>simp [hs,Good] at h
     | true =>
      simp only [hs] at h
      obtain ⟨h1,rfl⟩:=PE h
      obtain ⟨k,hk⟩:=xi (rS type i) hi
      have hr:=rS t x; rw [hx] at hr
      have hr:ρ x= .string a:=hr
      exact Pure.of rfl ⟨_,by rw [hk,hr]; exact Na hs h1,rfl⟩
   | _=>simp [hx,Good] at h
  | _=>simp [hx,Good] at h
 | extract x i =>
  simp only [cd] at h
  cases hx:evp [] type x with
  | t l =>
   simp only [hx] at h
   cases hn:nth l i with
   | none=>simp [hn,Good] at h
   | some p =>
    obtain ⟨b,cs⟩:=p
    simp only [hn] at h
    have:=dP h; subst this
    have hr:=rS type x; rw [hx] at hr
    exact Pure.of rfl (IE hr hn)
  | _=>simp [hx,Good] at h
 | call c =>
  obtain ⟨callee,args,argTypes⟩:=c
  cases callee with
  | builtin b =>
   simp only [cd] at h
   revert h; split
   ·rename_i x t ha ht
    intro h
    have F5:args= #[x]:=Array.toList_inj.1 ha
    have J3:argTypes= #[t]:=Array.toList_inj.1 ht
    subst F5; subst J3
    obtain ⟨u,hu,hr⟩:=Vq (ty:=type) hm hR (rS t x) h
    refine ⟨u,?_,hr⟩
    simp only [Go.execOp,resolve,invoke,Sem.run_bind,Sem.run_pure,Result.andThen_ok,builtin,List.map_toArray,List.map,hu]
   ·intro h
    exfalso
    revert h; simp only [Ctx.U4]; split
    ·exact S9
    ·exact kJ
   ·intro h
    exfalso
    revert h; simp only [Ctx.sG]; split
    ·split
     ·split
      ·simp [Good]
      ·exact kJ
     ·exact kJ
    ·exact kJ
   ·intro h
    exfalso
    revert h; simp only [Ctx.u5]; repeat' split
    all_goals simp [Good]
   ·rename_i tys x y ha
    intro h
    have F5:args= #[x,y]:=Array.toList_inj.1 ha
    subst F5
    obtain ⟨k,a,b,e1,e2,rfl⟩:=Oa (rS type x) (rS type y) h
    refine ⟨_,?_,rfl⟩
    simp only [Go.execOp,resolve,invoke,Sem.run_bind,Sem.run_pure,Result.andThen_ok,builtin,List.map_toArray,List.map,e1,e2,Builtin.max_]
    show (Result.andThen (Sem.run X.P (List.foldlM Builtin.max2 (.int k a) [.int k b]) w) _)=_
    simp only [List.foldlM,Sem.run_bind,ON,Result.andThen_ok,Sem.run_pure]
   ·rename_i tys x y ha
    intro h
    have F5:args= #[x,y]:=Array.toList_inj.1 ha
    subst F5
    obtain ⟨k,a,b,e1,e2,rfl⟩:=Oa (rS type x) (rS type y) h
    refine ⟨_,?_,rfl⟩
    simp only [Go.execOp,resolve,invoke,Sem.run_bind,Sem.run_pure,Result.andThen_ok,builtin,List.map_toArray,List.map,e1,e2,Builtin.min_]
    show (Result.andThen (Sem.run X.P (List.foldlM Builtin.min2 (.int k a) [.int k b]) w) _)=_
    simp only [List.foldlM,Sem.run_bind,PS,Result.andThen_ok,Sem.run_pure]
   ·exact fun h=>(kJ h).elim
  | value f=>simp [cd,Good] at h
  | invoke r n=>simp [cd,Good] at h
 | alloc t=>simp only [cd] at h; revert h; split<;>simp [Good]
 | box t x=>simp only [cd] at h; revert h; split<;>(try split)<;>simp [Good]
 | store t x y=>simp only [cd] at h; revert h; split<;>(try split)<;>first | (exact fun h=>(MT h).elim) | simp [Good]
 | buildSlice t n ps =>
  exfalso; simp only [cd] at h
  repeat' (first | (split at h) | (exact kJ h) | (simp [Good] at h; done))
 | makeSlice t n c =>
  exfalso; simp only [cd] at h
  repeat' (first | (split at h) | (exact kJ h) | (simp [Good] at h; done))
 | _=>simp [cd,Good] at h
end Go.Soft
namespace Go.Soft
open Go
variable {X:Ctx} {m M:Lk} {γ γ':Gh} {w w':World} {ρ:Operand->Value} {S:St} {δ:Dl}
theorem PK {α:Type} (l:List (Nat×α)) (n:Nat) (v:α) (k:Nat):lk (put l n v) k=if n=k then some v else lk l k:=by
 have adD:∀ l:List (Nat×α),lk (LR n v l) k=if n=k then (lk l n).map (fun _=>v) else lk l k:=by
  intro l
  induction l with
  | nil=>simp [LR,lk]
  | cons p l ih =>
   obtain ⟨j,u⟩:=p
   simp only [LR]
   by_cases Lw:j=n
   ·subst Lw
    rw [show Nat.beq j j=true from Nat.beq_refl j]
    simp only [lk]
    by_cases F6:j=k
    ·subst F6; simp [Nat.beq_refl]
    ·rw [show Nat.beq j k=false by cases h:Nat.beq j k; rfl; exact absurd (aM h) F6]
     simp only [ih,F6,if_false]
   ·rw [show Nat.beq j n=false by cases h:Nat.beq j n; rfl; exact absurd (aM h) Lw]
    simp only [lk]
    rw [show Nat.beq j n=false by cases h:Nat.beq j n; rfl; exact absurd (aM h) Lw]
    by_cases F6:j=k
    ·subst F6
     simp [Nat.beq_refl,Ne.symm Lw]
    ·rw [show Nat.beq j k=false by cases h:Nat.beq j k; rfl; exact absurd (aM h) F6]
     simp only [ih]
 simp only [put]
 cases h:lk l n with
 | none =>
  simp only [lk]
  by_cases Qo:n=k
  ·subst Qo; simp [Nat.beq_refl]
  ·rw [show Nat.beq n k=false by cases h:Nat.beq n k; rfl; exact absurd (aM h) Qo]; simp [Qo]
 | some u=>rw [adD,h]; rfl
theorem VF {α:Type} (n:Nat) (l:List (Nat×α)) (k:Nat):lk (WU n l) k=if n=k then none else lk l k:=by
 induction l with
 | nil=>simp [WU,lk]
 | cons p l ih =>
  obtain ⟨j,u⟩:=p
  simp only [WU]
  by_cases Lw:j=n
  ·subst Lw
   rw [show Nat.beq j j=true from Nat.beq_refl j]
   simp only [ih,lk]
   by_cases F6:j=k
   ·simp [F6]
   ·rw [show Nat.beq j k=false by cases h:Nat.beq j k; rfl; exact absurd (aM h) F6]
  ·rw [show Nat.beq j n=false by cases h:Nat.beq j n; rfl; exact absurd (aM h) Lw]
   simp only [lk]
   by_cases F6:j=k
   ·subst F6; simp [Nat.beq_refl,Ne.symm Lw]
   ·rw [show Nat.beq j k=false by cases h:Nat.beq j k; rfl; exact absurd (aM h) F6]; exact ih
def fx {α:Type}:List (Nat×α)->Nat->Option α
 | [],_=>none
 | (k,v)::l,n=>match fx l n with
  | some u=>some u
  | none=>if k=n then some v else none
theorem Kr (m:List (Nat×List Cv)):∀ (l:List (Nat×List Cv)) (k:Nat),lk (Oy l m) k=match fx m k with | some cs=>some cs | none=>lk l k:=by
 induction m with
 | nil=>intro l k; rfl
 | cons p m ih =>
  obtain ⟨j,cs⟩:=p
  intro l k
  simp only [Oy,ih,fx,PK]
  cases fx m k with
  | some u=>rfl
  | none=>by_cases h:j=k<;>simp [h]
theorem SD (m:List (Nat×Option Row)):∀ (l:List (Nat×Row)) (k:Nat),lk (Iz l m) k=match fx m k with | some r=>r | none=>lk l k:=by
 induction m with
 | nil=>intro l k; rfl
 | cons p m ih =>
  obtain ⟨j,r⟩:=p
  intro l k
  cases r with
  | none =>
   simp only [Iz,ih,fx,VF]
   cases fx m k with
   | some u=>rfl
   | none=>by_cases h:j=k<;>simp [h]
  | some r =>
   simp only [Iz,ih,fx,PK]
   cases fx m k with
   | some u=>rfl
   | none=>by_cases h:j=k<;>simp [h]
theorem tW (h:δ.quiet=true) (x:Cv):δ.map x=x:=by
 obtain ⟨mv,kr,ke,kn,kv,rs,vs⟩:=δ
 have:mv=[]/\kr=[]/\ke=[]/\kn=[]/\kv=[]:=by
  revert h; simp only [Dl.quiet]; split<;>simp_all
 obtain ⟨rfl,rfl,rfl,rfl,rfl⟩:=this
 have any:∀ l:List Nat,sb l []=false:=by intro l; induction l with | nil=>rfl | cons a l ih=>simp [sb,cp,ih]
 cases x<;>simp [Dl.map,cp,lk,any]
theorem Au {f:Cv->Cv} (h:∀ x,f x=x) (v:AV):kC f v=v:=by
 have hl:∀ l:List Cv,l.map f=l:=fun l=>by rw [show f=id from funext h]; simp
 induction v with
 | c x=>simp [kC,h]
 | a l=>simp [kC,hl]
 | t l=>simp [kC,hl]
 | g p q v ih=>simp [kC,ih]
theorem kT (S:St) (δ:Dl) (k:Nat):(S.app δ).lk.r k=match fx δ.rs k with | some r=>r | none=>S.lk.r k:=by
 simp only [St.app,St.lk]
 cases δ.quiet<;>simp only [SD]
theorem o8 (S:St) (δ:Dl) (k:Nat):(S.app δ).lk.v k=match fx δ.vs k with | some cs=>some cs | none=>(S.lk.v k).map (List.map δ.map):=by
 simp only [St.app,St.lk]
 cases h:δ.quiet with
 | true =>
  simp only [Kr]
  cases fx δ.vs k with
  | some cs=>rfl
  | none =>
   have:(List.map δ.map)=(id:List Cv->List Cv):=by
    rw [show δ.map=id from funext (tW h)]; exact funext fun l=>by simp
   simp [this]
 | false =>
  simp only [Kr,N6]
theorem OY (S:St) (δ:Dl) (t:Nat):lk (S.app δ).tm t=(lk S.tm t).map (kC δ.map):=by
 simp only [St.app]
 cases h:δ.quiet with
 | true =>
  have:kC δ.map=id:=funext fun v=>Au (tW h) v
  simp [this]
 | false=>simp only [N6]
structure Step (X:Ctx) (S:St) (γ:Gh) (w:World) (δ:Dl) (γ':Gh) (w':World):Prop where
 rel:Rel X (S.app δ).lk γ' w'
 qv:∀ x v,bu S.lk γ x v->bu (S.app δ).lk γ' (δ.map x) v
 fr:Fr γ.O w γ'.O w'
 kp:∀ k row,fx δ.rs k=none->S.lk.r k=some row->γ'.rv k=γ.rv k/\γ'.cv k=γ.cv k
 k1:∀ k row,fx δ.rs k=some (some row)->row.ow=1->k<100000
 io:∀ k,200000<=k->k<300000->γ'.rv k=γ.rv k
 vb:∀ k,k<1000->γ'.vb k=γ.vb k
 vk:∀ k cs,S.lk.v k=some cs->fx δ.vs k=none->γ'.vb k=γ.vb k/\γ'.O (γ.vb k)=some (.v k)/\w'.heap[γ.vb k]? =w.heap[γ.vb k]?
theorem Fr.trans {O0:OM} {w0:World} {O O':OM} {w w':World} (h:Fr O0 w0 O w) (h':Fr O w O' w'):Fr O0 w0 O' w' :=
 ⟨h'.os.trans h.os,h'.tape.trans h.tape,h'.output.trans h.output,Nat.le_trans h.size h'.size,
  fun g hg ho=>by
   obtain ⟨h1,h2⟩:=h.pd g hg ho
   obtain ⟨h3,h4⟩:=h'.pd g (Nat.lt_of_lt_of_le hg h.size) (by rw [h1]; exact ho)
   exact ⟨h3.trans h1,h4.trans h2⟩,h'.top⟩
theorem cj.map {m':Lk} {f:Cv->Cv} (hk:∀ x v,bu M γ x v->bu m' γ' (f x) v) {l:List Cv} {u:List Value} (h:cj M γ l u):cj m' γ' (l.map f) u:=by
 induction h with
 | nil=>exact .nil
 | cons hx hl ih=>exact .cons (hk _ _ hx) ih
theorem Pa.map {m':Lk} {f:Cv->Cv} (hk:∀ x v,bu M γ x v->bu m' γ' (f x) v) {p:Bool×List Cv} {u:Value} (h:Pa M γ p u):Pa m' γ' (p.1,p.2.map f) u:=by
 obtain ⟨us,h1,h2,h3⟩:=h
 exact ⟨us,h1.map hk,h2,h3⟩
theorem s8.map {m':Lk} {f:Cv->Cv} (hk:∀ x v,bu M γ x v->bu m' γ' (f x) v) {l:List (Bool×List Cv)} {u:List Value} (h:s8 M γ l u):s8 m' γ' (l.map fun p=>(p.1,p.2.map f)) u:=by
 induction h with
 | nil=>exact .nil
 | cons hx hl ih=>exact .cons (hx.map hk) ih
theorem bq.map {m':Lk} {f:Cv->Cv} (hk:∀ x v,bu M γ x v->bu m' γ' (f x) v) (hu:f .un= .un):∀ {av:AV} {v:Value},bq M γ av v->bq m' γ' (kC f av) v
 | .c x,v,h=>by
  by_cases hx:x= .un
  ·subst hx; simp only [kC,hu]; exact trivial
  ·exact bq.of (hk _ _ (bq.to h hx))
 | .a l,v,⟨us,h1,h2⟩=>⟨us,h1,h2.map hk⟩
 | .t l,v,⟨us,h1,h2⟩=>⟨us,h1,h2.map hk⟩
 | .g p q a,v,⟨h1,h2⟩=>⟨fun hq=>bq.map hk hu (h1 hq),h2⟩
theorem EB (δ:Dl) (x:Cv):δ.map x= .un \/
  (δ.map x=x/\(∀ r,x.row=some r->lk δ.mv r=none/\cp r δ.kr=false/\((∀ s,x≠ .sw s)->cp r δ.ke=false)/\(x.inner=true->cp r δ.kn=false))/\∀ k∈x.vk,cp k δ.kv=false) \/
  (∃ r d e c,lk δ.mv r=some (d,e,c)/\((x= .sw r/\δ.map x= .nw d e c)\/(∃ o n,x= .sl r o n/\δ.map x= .ns d e c o n)\/∃ k a,x= .pe r k a/\δ.map x= .pn d e c k a)):=by
 have anyF:∀ (l m:List Nat),sb l m=false->∀ k∈l,cp k m=false:=by
  intro l m
  induction l with
  | nil=>simp
  | cons a l ih =>
   simp only [sb]
   cases h:cp a m with
   | true=>simp
   | false=>intro h' k hk; rcases zI.1 hk with rfl | hk; exact h; exact ih h' k hk
 cases x with
 | pv v c=>simp only [Dl.map]; cases h:cp v δ.kv<;>simp [Cv.row,Cv.vk,h]
 | fn f caps =>
  simp only [Dl.map]; cases h:sb caps δ.kv with
  | true=>simp
  | false=>right; left; exact ⟨rfl,by simp [Cv.row],fun k hk=>anyF _ _ h k hk⟩
 | sw r =>
  simp only [Dl.map]; cases h:lk δ.mv r with
  | some p=>obtain ⟨d,e,c⟩:=p; right; right; exact ⟨r,d,e,c,h,.inl ⟨rfl,by simp [h]⟩⟩
  | none=>cases h2:cp r δ.kr<;>simp [Cv.row,Cv.vk,Cv.inner,h,h2]
 | sl r o n =>
  simp only [Dl.map]; cases h:lk δ.mv r with
  | some p=>obtain ⟨d,e,c⟩:=p; right; right; exact ⟨r,d,e,c,h,.inr (.inl ⟨o,n,rfl,by simp [h]⟩)⟩
  | none=>cases h2:cp r δ.kr<;>cases h3:cp r δ.ke<;>simp [Cv.row,Cv.vk,Cv.inner,h,h2,h3]
 | pe r k a =>
  simp only [Dl.map]; cases h:lk δ.mv r with
  | some p=>obtain ⟨d,e,c⟩:=p; right; right; exact ⟨r,d,e,c,h,.inr (.inr ⟨k,a,rfl,by simp [h]⟩)⟩
  | none=>cases h2:cp r δ.kr<;>cases h3:cp r δ.ke<;>simp [Cv.row,Cv.vk,Cv.inner,h,h2,h3]
 | nw r e c =>
  simp only [Dl.map]; cases h:lk δ.mv r with
  | some p=>simp
  | none=>cases h2:cp r δ.kr<;>cases h3:cp r δ.ke<;>cases h4:cp r δ.kn<;>simp [Cv.row,Cv.vk,Cv.inner,h,h2,h3,h4]
 | ns r e c o n =>
  simp only [Dl.map]; cases h:lk δ.mv r with
  | some p=>simp
  | none=>cases h2:cp r δ.kr<;>cases h3:cp r δ.ke<;>cases h4:cp r δ.kn<;>simp [Cv.row,Cv.vk,Cv.inner,h,h2,h3,h4]
 | pn r e c k d =>
  simp only [Dl.map]; cases h:lk δ.mv r with
  | some p=>simp
  | none=>cases h2:cp r δ.kr<;>cases h3:cp r δ.ke<;>cases h4:cp r δ.kn<;>simp [Cv.row,Cv.vk,Cv.inner,h,h2,h3,h4]
 | _=>simp [Dl.map,Cv.row,Cv.vk]
theorem mL (hR:Rel X S.lk γ w) (EG:δ.mv=[])
  (hw:∀ r row,S.lk.r r=some row->cp r δ.kr=false->(∃ row',(S.app δ).lk.r r=some row')/\γ'.rv r=γ.rv r)
  (hr:∀ r row row',S.lk.r r=some row->cp r δ.kr=false->cp r δ.ke=false->(S.app δ).lk.r r=some row'->row'.τ=row.τ/\row.xs.length<=row'.xs.length)
  (hn:∀ r,cp r δ.kr=false->cp r δ.ke=false->cp r δ.kn=false->PJ S.lk γ (S.app δ).lk γ' r)
  (hv:∀ k cs,S.lk.v k=some cs->cp k δ.kv=false->(∃ cs',(S.app δ).lk.v k=some cs')/\γ'.vb k=γ.vb k) :
  ∀ x v,bu S.lk γ x v->bu (S.app δ).lk γ' (δ.map x) v:=by
 intro x v hx
 rcases EB δ x with h | ⟨h,h1,h2⟩ | ⟨r,d,e,c,h,_⟩
 ·rw [h]; exact hx.one hR
 ·rw [h]
  have Z7:∀ r,x= .sw r->bu (S.app δ).lk γ' x v:=by
   rintro r rfl
   obtain ⟨⟨row,br⟩,rfl⟩:=hx
   obtain ⟨_,h3,_⟩:=h1 r rfl
   obtain ⟨h4,h5⟩:=hw r row br h3
   exact ⟨h4,h5.symm⟩
  by_cases hs:∃ r,x= .sw r
  ·obtain ⟨r,rfl⟩:=hs; exact Z7 r rfl
  ·have CX:∀ s,x≠ .sw s:=fun s e=>hs ⟨s,e⟩
   have br:∀ r,x.row=some r->∃ row,S.lk.r r=some row:=by
    intro r NW
    cases x<;>simp [Cv.row] at NW<;>subst NW
    case sw r=>exact absurd rfl (CX r)
    case sl=>obtain ⟨row,h,_⟩:=hx; exact ⟨row,h⟩
    case nw=>obtain ⟨row,_,_,h,_⟩:=hx; exact ⟨row,h⟩
    case ns=>obtain ⟨row,_,_,_,h,_⟩:=hx; exact ⟨row,h⟩
    case pe=>obtain ⟨row,h,_⟩:=hx; exact ⟨row,h⟩
    case pn=>obtain ⟨row,_,_,_,h,_⟩:=hx; exact ⟨row,h⟩
   have DB:∀ k∈x.vk,∃ cs,S.lk.v k=some cs:=by
    intro k hk
    cases x<;>simp [Cv.vk] at hk
    case pv=>subst hk; exact hx.1
    case fn=>exact hx.1 k hk
   refine hx.re (fun r cC=> ?_) (fun r cC hi=> ?_) (fun k hk=> ?_)
   ·obtain ⟨_,h3,h4,_⟩:=h1 r cC
    obtain ⟨row,Lz⟩:=br r cC
    obtain ⟨⟨row',h5⟩,h6⟩:=hw r row Lz h3
    refine ⟨fun row2 h7=> ?_,h6⟩
    rw [Lz] at h7; cases h7
    obtain ⟨h8,h9⟩:=hr r row row' Lz h3 (h4 CX) h5
    exact ⟨row',h5,h8,h9⟩
   ·obtain ⟨_,h3,h4,h5⟩:=h1 r cC
    exact hn r h3 (h4 CX) (h5 hi)
   ·obtain ⟨cs,je⟩:=DB k hk
    obtain ⟨h3,h4⟩:=hv k cs je (h2 k hk)
    exact ⟨fun _ _=>h3,h4⟩
 ·simp [EG,lk] at h
theorem yB {k:Nat} {row:Row} {v:Value} {cs:List Value} {O O':OM} (h:cX X O w k row v cs)
  (hf:∀ g o,w.heap[g]? =some o->MM k (O g)->w'.heap[g]? =some o/\O' g=O g):cX X O' w' k row v cs:=by
 refine ⟨h.top.re (c':=dU k row.ow) (fun g o hg hi=> ?_) id,fun e c ct he hc=> ?_⟩
 ·obtain ⟨h1,h2⟩:=hf g o hg (Fz hi); exact ⟨h1,h2▸hi⟩
 ·obtain ⟨u,hu,hr⟩:=h.rU e c ct he hc
  exact ⟨u,hu,hr.re (fun g o hg hi=>by obtain ⟨h1,h2⟩:=hf g o hg (KF hi); exact ⟨h1,h2▸hi⟩) id⟩
theorem b9 {g:Nat} {o:Obj} (h:w.heap[g]? =some o):g<w.heap.size:=(Array.getElem?_eq_some_iff.1 h).1
def eA {α:Type} (f:Nat->α) (k:Nat) (v:α):Nat->α:=fun n=>if n=k then v else f n
def PF (O:OM) (k:Nat):OM:=fun g=>if O g=some (.v k) then none else O g
theorem xK {α β:Type} (f:α->β) (l:List α):sm f l=l.map f:=by
 induction l with
 | nil=>rfl
 | cons x l ih=>simp [sm,ih]
section newvar
variable (S γ w) (key:Nat) (cs:List Cv)
def GF:Dl:={ Dl.z with kv:=[key],vs:=[(key,cs)] }
def GM:Gh:={ γ with O:=eA (PF γ.O key) w.heap.size (some (.v key)),vb:=eA γ.vb key w.heap.size }
theorem RE (k:Nat):(S.app (GF key cs)).lk.r k=S.lk.r k:=by rw [kT]; rfl
theorem Vl (k:Nat):(S.app (GF key cs)).lk.v k=if key=k then some cs else (S.lk.v k).map (List.map (GF key cs).map):=by
 rw [o8]
 show (match (if key=k then some cs else none) with | some cs=>some cs | none=>_)=_
 by_cases h:key=k<;>simp [h]
variable {S γ w}
theorem EJ (hR:Rel X S.lk γ w):∀ x v,bu S.lk γ x v->bu (S.app (GF key cs)).lk (GM γ w key) ((GF key cs).map x) v:=by
 refine mL hR rfl (fun r row h _=>⟨⟨row,by rw [RE]; exact h⟩,rfl⟩) (fun r row row' h _ _ h'=> ?_) (fun r _ _ _=>⟨fun row row' h h'=> ?_⟩) (fun k c h hk=> ?_)
 ·rw [RE,h] at h'; cases h'; exact ⟨rfl,Nat.le_refl _⟩
 ·rw [RE,h] at h'; cases h'
  intro e c τ ys _ hc; exact ⟨⟨ys,hc,Nat.le_refl _⟩,rfl⟩
 ·have cT:¬ key=k:=by
   intro e; subst e; simp [GF,Dl.z,cp,Nat.beq_refl] at hk
  exact ⟨⟨c.map (GF key cs).map,by rw [Vl,if_neg cT,h]; rfl⟩,by simp [GM,eA,Ne.symm cT]⟩
theorem La (uX:1000<=key) (hR:Rel X S.lk γ w) (cz:∀ g,w.heap.size<=g->γ.O g=none) (us:List Value) (e:TypeId) (hu:cj (S.app (GF key cs)).lk (GM γ w key) cs us) :
  Step X S γ w (GF key cs) (GM γ w key) (w.alloc (.cells us.toArray e))/\bu (S.app (GF key cs)).lk (GM γ w key) (.pv key 0) (.pointer (some ⟨w.heap.size,0,none⟩)):=by
 have hO:∀ g,g<w.heap.size->γ.O g≠some (.v key)->(GM γ w key).O g=γ.O g:=by
  intro g hg cT
  simp only [GM,eA,PF,Nat.ne_of_lt hg,if_false,cT]
 have nK:∀ g o,w.heap[g]? =some o->(w.alloc (.cells us.toArray e)).heap[g]? =some o:=fun g o hg=>by
  rw [heap_alloc_old w _ g (b9 hg)]; exact hg
 refine ⟨⟨⟨fun k c hk=> ?_,fun k row hk=> ?_⟩,EJ key cs hR,?_,fun _ _ _ _=>⟨rfl,rfl⟩,fun k row h=>(by cases h),fun _ _ _=>rfl,fun k hk=>(by simp [GM,eA,show k≠key by omega]),fun k cs hk hz=> ?_⟩,?_⟩
 ·rw [Vl] at hk
  by_cases h:key=k
  ·subst h
   rw [if_pos rfl] at hk; cases hk
   refine ⟨by simp [GM,eA],us.toArray,e,by rw [show (GM γ w key).vb key=w.heap.size by simp [GM,eA]]; exact heap_alloc_new w _,by simpa using hu⟩
  ·rw [if_neg h] at hk
   cases hc:S.lk.v k with
   | none=>simp [hc] at hk
   | some c' =>
    rw [hc] at hk; simp only [Option.map_some,zA] at hk; subst hk
    obtain ⟨h1,cur,e',h2,h3⟩:=hR.vs k c' hc
    have Gp:(GM γ w key).vb k=γ.vb k:=by simp [GM,eA,Ne.symm h]
    rw [Gp]
    have fW:=b9 h2
    refine ⟨by rw [hO _ fW (by rw [h1]; simp; exact fun e=>h e.symm),h1],cur,e',nK _ _ h2,h3.map (EJ key cs hR)⟩
 ·rw [RE] at hk
  refine yB (hR.rs k row hk) fun g o hg hf=>⟨nK g o hg,hO g (b9 hg) ?_⟩
  rcases hf with h | h | h | ⟨_,_,h⟩<;>rw [h]<;>simp
 ·refine ⟨rfl,rfl,rfl,by simp,fun g hg ho=>⟨hO g hg ?_,heap_alloc_old w _ g hg⟩,fun g hg=> ?_⟩
  ·rcases ho with h | h | h<;>rw [h]<;>simp
  ·simp only [World.size_alloc] at hg
   have h1:g≠w.heap.size:=by omega
   simp only [GM,eA,PF,h1,if_false,cz g (by omega)]
   simp
 ·have cT:¬ key=k:=by
   rintro rfl
   simp [GF,Dl.z,fx] at hz
  obtain ⟨h1,cur,e',h2,h3⟩:=hR.vs k cs hk
  have fW:=b9 h2
  exact ⟨by simp [GM,eA,Ne.symm cT],by rw [hO _ fW (by rw [h1]; simp; exact fun e=>cT e.symm),h1],heap_alloc_old w _ _ fW⟩
 ·exact ⟨⟨cs,by rw [Vl,if_pos rfl]⟩,by simp [GM,eA]⟩
end newvar
theorem mj (w:World) (g:Nat) (cs:Array Value) (k:Nat) (h:k≠g):(w.setRow g cs).heap[k]? =w.heap[k]? :=by
 simp [World.setRow,Array.getElem?_modify,Ne.symm h]
theorem tg (w:World) (g:Nat) (cs cur:Array Value) (e:TypeId) (fz:Nat×Nat) (h:w.heap[g]? =some (.cells cur e fz)):(w.setRow g cs).heap[g]? =some (.cells cs e fz):=by
 simp [World.setRow,Array.getElem?_modify,h]
theorem yH {t:TypeId} {v:Value} {g o:Nat} {cur:Array Value} {e:TypeId} (hg:w.heap[g]? =some (.cells cur e (0,0))) (hs:v.cells.size=gj X.P t) (hp:0<v.cells.size)
  (hle:o+v.cells.size<=cur.size) (h1:∀ u∈v.cells.toList,u.oneCell'=true) :
  (Instr.storeAt t (.pointer (some ⟨g,o,none⟩)) v).run X.P w= .ok () (w.setRow g (Soft.cY cur.toList o v.cells.toList).toArray):=by
 obtain ⟨i,hi,mH⟩:=G5 hs.symm hp
 simp only [Instr.storeAt,Instr.sureAddr,storeVar,Sem.run_bind,Sem.run_pure,Result.andThen_ok,o7 hi,mH,ne_eq,not_true_eq_false,if_false]
 rw [run_storeCells_at (P:=X.P) g o e v.cells.toList 0 cur w hg (by simpa using hle) h1]
 simp [Soft.cY]
theorem c8 {α:Type} (l m:List α) (c i:Nat) (h:i<c) (hc:c<=l.length):(Soft.cY l c m)[i]? =l[i]? :=by
 simp only [Soft.cY,List.append_assoc]
 rw [List.getElem?_append_left (by simp; omega),List.getElem?_take,if_pos h]
theorem cZ {α:Type} (l m:List α) (c i:Nat) (h:c+m.length<=i) (hc:c+m.length<=l.length):(Soft.cY l c m)[i]? =l[i]? :=by
 simp only [Soft.cY]
 rw [List.getElem?_append_right (by simp; omega),List.getElem?_drop]
 congr 1; simp; omega
theorem dK {α:Type} (l m:List α) (c j:Nat) (h:j<m.length) (hc:c+m.length<=l.length):(Soft.cY l c m)[c+j]? =m[j]? :=by
 simp only [Soft.cY,List.append_assoc]
 rw [List.getElem?_append_right (by simp; omega),List.getElem?_append_left (by simp; omega)]
 congr 1; simp; omega
section varstore
variable (k c:Nat) (sA vl:List Cv)
def NO:Dl:={ Dl.z with vs:=[(k,Soft.cY sA c vl)] }
theorem Py (x:Cv):(NO k c sA vl).map x=x:=tW rfl x
theorem RW (j:Nat):(S.app (NO k c sA vl)).lk.r j=S.lk.r j:=by rw [kT]; rfl
theorem Ya (j:Nat):(S.app (NO k c sA vl)).lk.v j=if k=j then some (Soft.cY sA c vl) else S.lk.v j:=by
 rw [o8]
 show (match (if k=j then some (Soft.cY sA c vl) else none) with | some cs=>some cs | none=>_)=_
 have:List.map (NO k c sA vl).map=id:=by rw [show (NO k c sA vl).map=id from funext (Py k c sA vl)]; exact funext fun l=>by simp
 by_cases h:k=j<;>simp [h,this]
theorem Se (hR:Rel X S.lk γ w) (cz:∀ g,w.heap.size<=g->γ.O g=none) {t:TypeId} {v:Value} {av:Value} (ha:bu S.lk γ (.pv k c) av) (ho:S.lk.v k=some sA)
  (hle:c+vl.length<=sA.length) (hv:cj S.lk γ vl v.cells.toList) (hs:vl.length=gj X.P t) (hp:0<vl.length) :
  ∃ w',(Instr.storeAt t av v).run X.P w= .ok () w'/\Step X S γ w (NO k c sA vl) γ w':=by
 obtain ⟨_,rfl⟩:=ha
 obtain ⟨hO,cur,e,hg,po⟩:=hR.vs k sA ho
 have hl1:=hv.length
 have Nv:=po.length
 simp only [Array.length_toList] at hl1 Nv
 refine ⟨_,yH hg (by omega) (by omega) (by omega) (hv.one hR),?_⟩
 have qv:∀ x v,bu S.lk γ x v->bu (S.app (NO k c sA vl)).lk γ ((NO k c sA vl).map x) v:=by
  refine mL hR rfl (fun r row h _=>⟨⟨row,by rw [RW]; exact h⟩,rfl⟩) (fun r row row' h _ _ h'=> ?_) (fun r _ _ _=>⟨fun row row' h h'=> ?_⟩) (fun j cs h _=>⟨?_,rfl⟩)
  ·rw [RW,h] at h'; cases h'; exact ⟨rfl,Nat.le_refl _⟩
  ·rw [RW,h] at h'; cases h'
   intro e c τ ys _ hc; exact ⟨⟨ys,hc,Nat.le_refl _⟩,rfl⟩
  ·rw [Ya]; by_cases lN:k=j
   ·exact ⟨_,if_pos lN⟩
   ·exact ⟨cs,by rw [if_neg lN]; exact h⟩
 have keep':∀ {l u},cj S.lk γ l u->cj (S.app (NO k c sA vl)).lk γ l u:=by
  intro l u h
  have:=h.map qv
  rwa [show l.map (NO k c sA vl).map=l by rw [show (NO k c sA vl).map=id from funext (Py k c sA vl)]; simp] at this
 have nK:∀ g,g≠γ.vb k->(w.setRow (γ.vb k) (Soft.cY cur.toList c v.cells.toList).toArray).heap[g]? =w.heap[g]? :=fun g h=>mj w _ _ g h
 refine ⟨⟨fun j cs hj=> ?_,fun r row hr=> ?_⟩,qv,?_,fun _ _ _ _=>⟨rfl,rfl⟩,fun k row h=>(by cases h),fun _ _ _=>rfl,fun _ _=>rfl,fun j cs hj hz=>⟨rfl,(hR.vs j cs hj).1,nK _ fun h=> ?_⟩⟩
 ·rw [Ya] at hj
  by_cases lN:k=j
  ·subst lN
   rw [if_pos rfl] at hj; cases hj
   exact ⟨hO,_,e,tg w _ _ _ _ _ hg,by simpa using keep' (po.cY hv c)⟩
  ·rw [if_neg lN] at hj
   obtain ⟨h1,cur',e',h2,h3⟩:=hR.vs j cs hj
   refine ⟨h1,cur',e',?_,keep' h3⟩
   rw [nK _ (fun h=>by rw [h,hO] at h1; simp at h1; exact lN h1)]; exact h2
 ·rw [RW] at hr
  refine yB (hR.rs r row hr) fun g o sB hf=>⟨?_,rfl⟩
  rw [nK g (fun h=>by rw [h,hO] at hf; rcases hf with h | h | h | ⟨_,_,h⟩<;>simp at h)]; exact sB
 ·refine ⟨rfl,rfl,rfl,by simp,fun g sB NI=>⟨rfl,nK g (fun h=>by rw [h,hO] at NI; simp at NI)⟩,fun g sB=>cz g (by simpa using sB)⟩
 ·have h1:=(hR.vs j cs hj).1
  rw [h,hO] at h1; simp at h1; subst h1
  simp [NO,Dl.z,fx] at hz
end varstore
end Go.Soft
namespace Go.Soft
open Go
variable {X:Ctx} {m M:Lk} {γ γ':Gh} {w w':World} {ρ:Operand->Value} {S:St} {δ:Dl}
structure Kn (R:Nat->Prop) (γ:Gh) (w:World) (γ':Gh) (w':World):Prop where
 os:w'.os=w.os
 tape:w'.tape=w.tape
 output:w'.output=w.output
 size:w.heap.size<=w'.heap.size
 pd:∀ g,g<w.heap.size->(∀ r,R r->γ.O g≠some (.r r)/\∀ e c,γ.O g≠some (.n r e c))->w'.heap[g]? =w.heap[g]? /\γ'.O g=γ.O g
 top:∀ g,w'.heap.size<=g->γ'.O g=none
 vb:γ'.vb=γ.vb
 rv:∀ r,¬ R r->γ'.rv r=γ.rv r/\γ'.cv r=γ.cv r
theorem Kn.row {R:Nat->Prop} (h:Kn R γ w γ' w') {r:Nat} (hr:¬ R r) {row:Row} {v:Value} {cs:List Value} (br:cX X γ.O w r row v cs):cX X γ'.O w' r row v cs :=
 yB br fun g o hg hf=>by
  obtain ⟨h1,h2⟩:=h.pd g (b9 hg) (fun s hs=>by
   rcases hf with h | h | h | ⟨_,_,h⟩<;>rw [h]<;>refine ⟨?_,fun e c=> ?_⟩<;>simp
   ·rintro rfl; exact hr hs
   ·rintro rfl; exact absurd hs hr)
  exact ⟨h1.trans hg,h2⟩
theorem mu {R:Nat->Prop} (hR:Rel X S.lk γ w) (hvs:δ.vs=[]) (hc:Kn R γ w γ' w') (qv:∀ x v,bu S.lk γ x v->bu (S.app δ).lk γ' (δ.map x) v)
  (TL:∀ r row,fx δ.rs r=some (some row)->cX X γ'.O w' r row (γ'.rv r) (γ'.cv r)) (Gk:∀ r row,fx δ.rs r=none->S.lk.r r=some row->¬ R r)
  (wq:∀ k row,fx δ.rs k=some (some row)->row.ow=1->k<100000) (C3:∀ k,200000<=k->k<300000->γ'.rv k=γ.rv k):Step X S γ w δ γ' w':=by
 refine ⟨⟨fun k cs hk=> ?_,fun r row hr=> ?_⟩,qv,?_,fun k row h1 h2=>hc.rv k (Gk k row h1 h2),wq,C3,fun k _=>(by rw [hc.vb]),fun k cs hk _=> ?_⟩
 ·rw [o8,hvs] at hk
  simp only [fx] at hk
  cases je:S.lk.v k with
  | none=>simp [je] at hk
  | some cs' =>
   rw [je] at hk; simp only [Option.map_some,zA] at hk; subst hk
   obtain ⟨h1,cur,e,h2,h3⟩:=hR.vs k cs' je
   obtain ⟨h4,h5⟩:=hc.pd (γ.vb k) (b9 h2) (fun s _=>by rw [h1]; simp)
   rw [hc.vb]
   exact ⟨h5.trans h1,cur,e,h4.trans h2,h3.map qv⟩
 ·rw [kT] at hr
  cases hz:fx δ.rs r with
  | none =>
   rw [hz] at hr
   have hn:=Gk r row hz hr
   obtain ⟨h1,h2⟩:=hc.rv r hn
   rw [h1,h2]
   exact hc.row hn (hR.rs r row hr)
  | some r' =>
   rw [hz] at hr
   subst hr
   exact TL r row hz
 ·refine ⟨hc.os,hc.tape,hc.output,hc.size,fun g hg ho=> ?_,hc.top⟩
  obtain ⟨h1,h2⟩:=hc.pd g hg (fun s _=>by rcases ho with h | h | h<;>rw [h]<;>simp)
  exact ⟨h2,h1⟩
 ·obtain ⟨h1,cur,e,h2,h3⟩:=hR.vs k cs hk
  obtain ⟨h4,h5⟩:=hc.pd (γ.vb k) (b9 h2) (fun s _=>by rw [h1]; simp)
  exact ⟨by rw [hc.vb],h5.trans h1,h4⟩
def L8 (O:OM) (key:Nat) (n:Option Nat):OM:=fun g=>if some g=n then some (.r key) else match O g with
 | some (.r k)=>if k=key then none else some (.r k)
 | some (.n k e c)=>if k=key then none else some (.n k e c)
 | o=>o
def Ad (γ:Gh) (key:Nat) (n:Option Nat) (v:Value) (cs:List Value):Gh:={ γ with O:=L8 γ.O key n,rv:=eA γ.rv key v,cv:=eA γ.cv key cs }
theorem RZ (cz:∀ g,w.heap.size<=g->γ.O g=none) {key:Nat} {n:Option Nat} {v:Value} {cs:List Value} (Zc:w'.os=w.os) (C5:w'.tape=w.tape) (wj:w'.output=w.output)
  (mH:w.heap.size<=w'.heap.size) (hn:∀ g,some g=n->w.heap.size<=g/\g<w'.heap.size) (hb:∀ g,g<w.heap.size->w'.heap[g]? =w.heap[g]?) :
  Kn (·=key) γ w (Ad γ key n v cs) w':=by
 refine ⟨Zc,C5,wj,mH,fun g hg hk=>⟨hb g hg,?_⟩,fun g hg=> ?_,rfl,fun r hr=>by simp [Ad,eA,hr]⟩
 ·obtain ⟨h1,h2⟩:=hk key rfl
  have CM:¬ some g=n:=fun h=>by have:=hn g h; omega
  simp only [Ad,L8,if_neg CM]
  cases ho:γ.O g with
  | none=>rfl
  | some o =>
   rw [ho] at h1 h2
   cases o with
   | r k=>simp at h1; simp [h1]
   | n k e c=>have:=h2 e c; simp at this; simp [this]
   | _=>rfl
 ·have CM:¬ some g=n:=fun h=>by have:=hn g h; omega
  simp only [Ad,L8,if_neg CM,cz g (Nat.le_trans mH hg)]
def PQ (key:Nat) (row:Row):Dl:={ Dl.z with kr:=[key],rs:=[(key,some row)] }
theorem SX (S:St) (key:Nat) (row:Row) (k:Nat):(S.app (PQ key row)).lk.r k=if key=k then some row else S.lk.r k:=by
 rw [kT]
 show (match (if key=k then some (some row) else none) with | some r=>r | none=>_)=_
 by_cases h:key=k<;>simp [h]
theorem abZ (S:St) (key:Nat) (row:Row) (k:Nat):(S.app (PQ key row)).lk.v k=(S.lk.v k).map (List.map (PQ key row).map):=by rw [o8]; rfl
theorem Kt {a b:Nat}:cp a [b]=false↔a≠b:=by
 simp only [cp]
 cases h:Nat.beq b a with
 | true=>have:=aM h; simp [this]
 | false=>simp; rintro rfl; rw [Nat.beq_refl] at h; cases h
theorem RM (hR:Rel X S.lk γ w) (key:Nat) (row:Row) {γ':Gh} (Gp:γ'.vb=γ.vb) (wy:∀ r,r≠key->γ'.rv r=γ.rv r/\γ'.cv r=γ.cv r) :
  ∀ x v,bu S.lk γ x v->bu (S.app (PQ key row)).lk γ' ((PQ key row).map x) v:=by
 have cT:∀ r,cp r (PQ key row).kr=false->key≠r:=fun r h=>Ne.symm (Kt.1 h)
 refine mL hR rfl (fun r rw' h hk=>⟨⟨rw',by rw [SX,if_neg (cT r hk)]; exact h⟩,(wy r (Ne.symm (cT r hk))).1⟩) (fun r row1 row2 h hk _ h'=> ?_) (fun r hk _ _=>⟨fun row1 row2 h h'=> ?_⟩) (fun k cs h _=>⟨?_,by rw [Gp]⟩)
 ·rw [SX,if_neg (cT r hk),h] at h'; cases h'; exact ⟨rfl,Nat.le_refl _⟩
 ·rw [SX,if_neg (cT r hk),h] at h'; cases h'
  intro e c τ ys _ hc; exact ⟨⟨ys,hc,Nat.le_refl _⟩,by rw [(wy r (Ne.symm (cT r hk))).2]⟩
 ·exact ⟨cs.map (PQ key row).map,by rw [abZ,h]; rfl⟩
theorem Sd (hR:Rel X S.lk γ w) {key:Nat} {row:Row} (uX:key<100000) {v:Value} {cs:List Value} {n:Option Nat} (hc:Kn (·=key) γ w (Ad γ key n v cs) w') (br:cX X (L8 γ.O key n) w' key row v cs) :
  Step X S γ w (PQ key row) (Ad γ key n v cs) w'/\bu (S.app (PQ key row)).lk (Ad γ key n v cs) (.sw key) v:=by
 refine ⟨mu hR rfl hc (RM hR key row rfl fun r hr=>by simp [Ad,eA,hr]) (fun r row' h=> ?_) (fun r row' h _=> ?_) (fun k row' h _=> ?_) (fun k h1 _=>by simp [Ad,eA,show k≠key by omega]),⟨row,by rw [SX,if_pos rfl]⟩,by simp [Ad,eA]⟩
 ·have h:(if key=r then some (some row) else none)=some (some row'):=h
  by_cases hk:key=r
  ·subst hk; rw [if_pos rfl] at h; cases h
   simpa [Ad,eA] using br
  ·rw [if_neg hk] at h; cases h
 ·have h:(if key=r then some (some row) else none)=none:=h
  by_cases hk:key=r
  ·rw [if_pos hk] at h; cases h
  ·exact Ne.symm hk
 ·have h:(if key=k then some (some row) else none)=some (some row'):=h
  by_cases hk:key=k
  ·omega
  ·rw [if_neg hk] at h; cases h
theorem DY (τ:Ty) {c:Nat} {ct:Ct} (h:(cells τ (cy τ))[c]? =some ct) (X:Ctx) (O:OM) (w:World) (cl:Ff):gm X O w cl ct (gJ ct):=by
 have nil:∀ σ:Ty,σ.deep=false->gm X O w cl (.l σ []) (.slice none 0 0):=by
  intro σ hd
  refine ⟨hd,?_⟩
  cases cl with
  | own t=>exact ⟨World.ownsRow_nil w 0 _ _,by simp [Value.ownBlock]⟩
  | _=>exact ⟨by simp [gu],.inl ⟨rfl,rfl⟩⟩
 have hm:=List.mem_of_getElem? h
 have one:∀ ct':Ct,(ct'=ct)->(ct'= .l .int []\/ct'= .l .slot []\/gm X O w cl ct' (gJ ct'))->gm X O w cl ct (gJ ct):=by
  rintro _ rfl (rfl | rfl | h)
  ·exact nil _ rfl
  ·exact nil _ rfl
  ·exact h
 cases τ<;>simp only [cells,cy,zI,List.not_mem_nil,or_false] at hm
 all_goals (
  repeat (first
   | (refine one _ hm.symm ?_; first | exact .inr (.inr rfl) | exact .inl rfl | exact .inr (.inl rfl))
   | (refine hm.elim (fun hm=> ?_) (fun hm=> ?_))))
theorem ou {t:TypeId} {τ:Ty} (h:X.lT t=some τ):X.P.underlying t=some (.slice (X.id τ))/\lk X.ty (X.id τ)=some τ:=by
 simp only [Ctx.lT,Pk,Ctx.Si] at h
 revert h; split
 ·rename_i e he
  split
  ·rename_i τ' hτ
   split
   ·rename_i hb
    intro h; cases h
    have:=aM hb
    subst this
    refine ⟨?_,hτ⟩
    revert he; split<;>intro he
    ·cases he; assumption
    ·cases he
   ·simp
  ·simp
 ·simp
theorem tf (hX:iH X) {t:TypeId} {τ:Ty} (h:X.lT t=some τ):∃ i z,X.P.info? (X.id τ)=some i/\i.zero=some z/\i.size=sz τ/\i.bytes<=128/\z.cells.toList=(cells τ (cy τ)).map gJ/\z.cells.size=sz τ:=by
 obtain ⟨_,h2⟩:=ou h
 obtain ⟨i,hi,hs⟩:=hX.ty _ _ h2
 obtain ⟨i',z,sx,hz,hc,hb⟩:=hX.id _ _ h2 rfl
 rw [hi] at sx; cases sx
 refine ⟨i,z,hi,hz,hs,hb,hc,?_⟩
 have:=congrArg List.length hc
 simpa [bf] using this
theorem Hu {z:Array Value} {n e c s:Nat} (hs:z.size=s) (hp:0<s) (he:e<n) (hc:c<s):(madeCells z (n*s)).toList[e*s+c]? =z.toList[c]? :=by
 have h1:(e+1)*s<=n*s:=zP _ he
 rw [Nat.add_mul] at h1
 have h2:e*s+c<n*s:=by omega
 have h3:(e*s+c) % s=c:=by rw [Nat.mul_comm,Nat.mul_add_mod,Nat.mod_eq_of_lt hc]
 subst hs
 simp [madeCells,h2,h3,hc]
theorem MF (hX:iH X) (hR:Rel X S.lk γ w) (cz:∀ g,w.heap.size<=g->γ.O g=none) {t:TypeId} {τ:Ty} (ht:X.lT t=some τ) {k k':IntKind} {n:Nat} (hn:n<=NM) (key:Nat) (uX:key<100000) :
  ∃ v w' γ',(Instr.makeSlice t (.int k n) (.int k' n)).run X.P w= .ok v w'/\Step X S γ w (PQ key ⟨τ,List.replicate n (cy τ),5⟩) γ' w' /\
   bu (S.app (PQ key ⟨τ,List.replicate n (cy τ),5⟩)).lk γ' (.sw key) v:=by
 obtain ⟨hu,hτ⟩:=ou ht
 obtain ⟨i,z,hi,hz,hs,hb,hc,J9⟩:=tf hX ht
 have Xd:i.bytes*n<=281474976710656:=by
  have:=Nat.mul_le_mul hb hn; simp only [NM] at this; omega
 obtain ⟨w',nE,gV,Ak⟩:=run_make_full (P:=X.P) w 0 t (X.id τ) i z (sz τ) hu hi hz hs k k' n Xd (by simp only [NM] at hn; simp only [maxLen]; omega) (Nat.zero_le _)
 have jg:w.heap.size<w'.heap.size:=(gV.lt w.heap.size rfl).2
 have tN:Kn (·=key) γ w (Ad γ key (some w.heap.size) (.slice (some ⟨w.heap.size,0,none⟩) n n) (madeCells z.cells (n*sz τ)).toList) w' :=
  RZ cz Ak.os Ak.tape Ak.output Ak.size (fun g hg=>by cases hg; exact ⟨Nat.le_refl _,jg⟩) (fun g hg=>Ak.block g hg (by simp))
 have br:cX X (L8 γ.O key (some w.heap.size)) w' key ⟨τ,List.replicate n (cy τ),5⟩ (.slice (some ⟨w.heap.size,0,none⟩) n n) (madeCells z.cells (n*sz τ)).toList:=by
  refine ⟨⟨by simpa using gV,fun g hg=> ?_⟩,fun e c ct he dk=> ?_⟩
  ·have:w.heap.size=g:=by simpa [Value.ownBlock] using hg
   simp [L8,this]
  ·have he:e<n:=by simpa using he
   have je:(cells τ (cy τ))[c]? =some ct:=by
    have:(List.replicate n (cy τ)).getD e (cy τ)=cy τ:=by simp [List.getD,List.getElem?_replicate,he]
    rw [vY,this] at dk; exact dk
   have fW:c<sz τ:=by have:=(zU.1 je).1; rwa [bf] at this
   refine ⟨gJ ct,?_,DY τ je _ _ _ _⟩
   rw [Hu J9 (o6 τ) he fW,hc,List.getElem?_map,je]; rfl
 obtain ⟨h1,h2⟩:=Sd hR uX tN br
 exact ⟨_,w',_,nE,h1,h2⟩
def GA (M:Lk) (γ:Gh) (x:Cv) (g:Nat):Prop:=match x with
 | .sw r=>∃ row,M.r r=some row/\In (dU r row.ow) (γ.O g)
 | .sl r _ _=>∃ row,M.r r=some row/\In (dU r row.ow) (γ.O g)
 | .nw r e c=>∃ row,M.r r=some row/\In (dY r e c row.ow) (γ.O g)
 | .ns r e c _ _=>∃ row,M.r r=some row/\In (dY r e c row.ow) (γ.O g)
 | _=>False
theorem Pu (hm:Le m M) (hR:Rel X M γ w) {x:Cv} {v:Value} (hx:bu M γ x v) {τ:Ty} {ys:List (El τ)} (hd:τ.deep=false) (h:(m.vw x).ct=some (.l τ ys)) :
  As (GA M γ x) w (sz τ) v ys.length (gu τ ys):=by
 obtain ⟨⟨cs,mF⟩,hlen⟩:=BD hm hR hx h
 have AJ:=mF.flat hd
 subst AJ
 refine ⟨mF.top.1,?_⟩
 have top:∀ {A:Nat->Prop} {b:Value} {n':Nat} {cs':List Value} {off len z:Nat},As A w z b n' cs'->BQ z b off len v->∀ g o n cap,v= .slice (some ⟨g,o,none⟩) n cap->A g:=by
  intro A b n' cs' off len z hb hs g o n cap hv
  rcases hs with ⟨_,h2,_⟩ | ⟨g1,o1,n1,cap1,o2,cap2,h1,h2,_⟩
  ·rw [h2] at hv; cases hv
  ·rw [h2] at hv
   have hg:g1=g:=by injection hv with h1 _ _; injection h1 with h1; injection h1
   subst hg
   rcases hb.2 with ⟨h3,_⟩ | ⟨g3,o3,cap3,cur,e,fz,h3,_,ha,_⟩
   ·rw [h3] at h1; cases h1
   ·rw [h3] at h1
    have hg:g3=g1:=by injection h1 with h1 _ _; injection h1 with h1; injection h1
    exact hg▸ha
 have self:∀ {A:Nat->Prop} {n':Nat} {cs':List Value} {z:Nat},As A w z v n' cs'->∀ g o n cap,v= .slice (some ⟨g,o,none⟩) n cap->A g:=by
  intro A n' cs' z hb g o n cap hv
  exact top hb hb.Jd.self g o n cap hv
 have key:∀ g o n cap,v= .slice (some ⟨g,o,none⟩) n cap->GA M γ x g:=by
  cases x with
  | nl σ=>intro g o n cap hv; have hx:v= .slice none 0 0:=hx; rw [hx] at hv; cases hv
  | sw r =>
   obtain ⟨⟨row,hr⟩,rfl⟩:=hx
   exact fun g o n cap hv=>⟨row,hr,self (hR.rs r row hr).top.Aa g o n cap hv⟩
  | sl r off len =>
   obtain ⟨row,hr,_,hs⟩:=hx
   exact fun g o n cap hv=>⟨row,hr,top (hR.rs r row hr).top.Aa hs g o n cap hv⟩
  | nw r e c =>
   obtain ⟨row,τ',ys',hr,he,hc,hu⟩:=hx
   obtain ⟨u',pg,eO⟩:=(hR.rs r row hr).rU e c _ he hc
   rw [hu] at pg; cases pg
   exact fun g o n cap hv=>⟨row,hr,self eO.2.Aa g o n cap hv⟩
  | ns r e c off len =>
   obtain ⟨row,τ',ys',u,hr,he,hc,hu,_,hs⟩:=hx
   obtain ⟨u',pg,eO⟩:=(hR.rs r row hr).rU e c _ he hc
   rw [hu] at pg; cases pg
   exact fun g o n cap hv=>⟨row,hr,top eO.2.Aa hs g o n cap hv⟩
  | _=>simp [Lk.vw,Vw.ct] at h
 rcases mF.top.2 with hn | ⟨g,o,cap,cur,e,fz,h1,h2,h3,h4⟩
 ·exact .inl hn
 ·exact .inr ⟨g,o,cap,cur,e,fz,h1,h2,key _ _ _ _ h1,h4⟩
structure AbO (M:Lk) (γ:Gh) (w:World) (O':OM) (w':World) (x:Cv) (a:Ab) (key e c dS:Nat):Prop where
 heap:∀ g o,w.heap[g]? =some o->GA M γ x g->w'.heap[g]? =some o
 Yb:∀ g,g<w.heap.size->(γ.O g=none\/γ.O g=some .fz)->O' g=γ.O g
 mv:∀ r,a.mv=some r->∀ g,γ.O g=some (.r r)->In (dY key e c dS) (O' g)
 ZR:∀ r,a.sh=some (r,3)->∀ g,γ.O g=some (.r r)->O' g=some .fz
 XS:∀ r,a.sh=some (r,4)->∀ g e c,γ.O g=some (.n r e c)->O' g=some .fz
theorem BW (r:Nat) {ow:Nat} (ho:eG ow=false):(dU r ow= .fz/\SR ow=4)\/(dU r ow= .ni/\SR ow=2):=by
 simp only [dU,ho,SR]
 by_cases h3:ow=3
 ·subst h3; exact .inl ⟨rfl,rfl⟩
 ·refine .inr ⟨?_,?_⟩
  ·split
   ·exact absurd rfl h3
   ·rfl
  ·split
   ·exact absurd rfl h3
   ·rfl
theorem Nj (hm:Le m M) (hR:Rel X M γ w) {x:Cv} {v:Value} (hx:bu M γ x v) {a:Ab} (ha:m.eR x=some a) {key e c dS:Nat} (tM:dS=2\/dS=4\/dS=5) (hle:dS<=a.lv)
  {O':OM} {w':World} (h:AbO M γ w O' w' x a key e c dS):gm X O' w' (dY key e c dS) a.ct v:=by
 have nil:∀ σ:Ty,σ.deep=false->gm X O' w' (dY key e c dS) (.l σ []) (.slice none 0 0):=by
  intro σ hd
  refine ⟨hd,?_⟩
  cases dY key e c dS with
  | own t=>exact ⟨World.ownsRow_nil w' 0 _ _,by simp [Value.ownBlock]⟩
  | _=>exact ⟨by simp [gu],.inl ⟨rfl,rfl⟩⟩
 have shut:∀ (τ:Ty) (ys:List (El τ)),τ.deep=false->(m.vw x).ct=some (.l τ ys)->dS≠5->(∀ g,g<w.heap.size->GA M γ x g->In (dY key e c dS) (O' g)) ->
   gm X O' w' (dY key e c dS) (.l τ ys) v:=by
  intro τ ys hd dk h5 ht
  refine ⟨hd,?_⟩
  have hs:=Pu hm hR hx hd dk
  have hb:∀ g o,w.heap[g]? =some o->GA M γ x g->w'.heap[g]? =some o/\In (dY key e c dS) (O' g):=by
   intro g o hg hi
   exact ⟨h.heap g o hg hi,ht g (b9 hg) hi⟩
  have CX:=hs.mono hb
  have:dY key e c dS= .ni\/dY key e c dS= .fz:=by
   rcases tM with rfl | rfl | rfl
   ·exact .inl rfl
   ·exact .inr rfl
   ·exact absurd rfl h5
  rcases this with hc | hc<;>rw [hc] at CX ⊢<;>exact CX
 have toB:∀ g,g<w.heap.size->In .ni (γ.O g)->dS=2->In (dY key e c dS) (O' g):=by
  intro g hg hi h2; subst h2
  have:=h.Yb g hg hi
  show In .ni (O' g); rw [this]; exact hi
 have toF:∀ g,(O' g=some .fz)->dS≠5->In (dY key e c dS) (O' g):=by
  intro g hi h5
  rcases tM with rfl | rfl | rfl
  ·exact .inr hi
  ·exact hi
  ·exact absurd rfl h5
 have fzF:∀ g,g<w.heap.size->γ.O g=some .fz->O' g=some .fz:=fun g hg hi=>by rw [h.Yb g hg (.inr hi)]; exact hi
 cases x with
 | b y=>simp only [Lk.eR,zA] at ha; subst ha; exact hx
 | i k n=>simp only [Lk.eR,zA] at ha; subst ha; exact hx
 | s y=>simp only [Lk.eR,zA] at ha; subst ha; exact hx
 | nl τ =>
  simp only [Lk.eR] at ha
  cases hd:τ.deep with
  | true=>simp [hd] at ha
  | false=>simp only [hd,zA] at ha; subst ha; have hx:v= .slice none 0 0:=hx; subst hx; exact nil τ hd
 | sw r =>
  simp only [Lk.eR] at ha
  cases hr:m.r r with
  | none=>simp [hr] at ha
  | some row =>
   have fU:=hm.r r row hr
   cases hd:row.τ.deep with
   | true=>simp [hr,hd] at ha
   | false =>
    cases ho:eG row.ow with
    | true =>
     simp only [hr,hd,ho,zA] at ha; subst ha
     obtain ⟨⟨row',cC⟩,rfl⟩:=hx
     have br:=hR.rs r row fU
     refine ⟨hd,?_⟩
     have AJ:γ.cv r=gu row.τ row.xs:=(br.Xp (A:=fun _=>True) (fun _ _=>trivial)).flat hd
     have cz:=br.top
     rw [AJ] at cz
     refine cz.re (fun g o hg hi=> ?_) (fun _=>by simp [dU,ho,Ff.pN])
     have hi:γ.O g=some (.r r):=by simpa [dU,ho,In] using hi
     exact ⟨h.heap g o hg ⟨row,fU,by simpa [dU,ho,In] using hi⟩,h.mv r rfl g hi⟩
    | false =>
     simp only [hr,hd,ho,zA] at ha; subst ha
     have dk:(m.vw (.sw r)).ct=some (.l row.τ row.xs):=by simp [Lk.vw,hr,Vw.ct]
     simp only at hle ⊢
     rcases BW r ho with ⟨ht,hl⟩ | ⟨ht,hl⟩
     ·rw [hl] at hle
      refine shut _ _ hd dk (by omega) (fun g hg hi=>toF g ?_ (by omega))
      obtain ⟨row',cC,hi⟩:=hi
      rw [fU] at cC; cases cC
      rw [ht] at hi; exact fzF g hg hi
     ·rw [hl] at hle
      refine shut _ _ hd dk (by omega) (fun g hg hi=>toB g hg ?_ (by omega))
      obtain ⟨row',cC,hi⟩:=hi
      rw [fU] at cC; cases cC
      rw [ht] at hi; exact hi
 | sl r off len =>
  simp only [Lk.eR] at ha
  cases dk:(m.vw (.sl r off len)).ct with
  | none=>simp [dk] at ha
  | some ct =>
   cases ct with
   | l τ y =>
    cases hr:m.r r with
    | none=>simp [dk,hr,Cv.row] at ha
    | some row =>
     have fU:=hm.r r row hr
     cases hd:τ.deep with
     | true=>simp [dk,hr,hd,Cv.row] at ha
     | false =>
      cases ho:eG row.ow with
      | true =>
       simp only [dk,hr,hd,ho,Cv.row,Cv.inner] at ha
       cases h4:oq 4 row.ow with
       | false=>simp [h4] at ha
       | true =>
       simp only [h4,zA] at ha; subst ha
       simp only at hle ⊢
       refine shut _ _ hd dk (by omega) (fun g hg hi=>toF g ?_ (by omega))
       obtain ⟨row',cC,hi⟩:=hi
       rw [fU] at cC; cases cC
       exact h.ZR r rfl g (by simpa [dU,ho,In] using hi)
      | false =>
       simp only [dk,hr,hd,ho,Cv.row,Cv.inner,zA] at ha; subst ha
       simp only at hle ⊢
       rcases BW r ho with ⟨ht,hl⟩ | ⟨ht,hl⟩
       ·rw [hl] at hle
        refine shut _ _ hd dk (by omega) (fun g hg hi=>toF g ?_ (by omega))
        obtain ⟨row',cC,hi⟩:=hi
        rw [fU] at cC; cases cC
        rw [ht] at hi; exact fzF g hg hi
       ·rw [hl] at hle
        refine shut _ _ hd dk (by omega) (fun g hg hi=>toB g hg ?_ (by omega))
        obtain ⟨row',cC,hi⟩:=hi
        rw [fU] at cC; cases cC
        rw [ht] at hi; exact hi
   | _=>simp [dk] at ha
 | nw r e' c' =>
  simp only [Lk.eR] at ha
  cases dk:(m.vw (.nw r e' c')).ct with
  | none=>simp [dk] at ha
  | some ct =>
   cases ct with
   | l τ y =>
    cases hr:m.r r with
    | none=>simp [dk,hr,Cv.row] at ha
    | some row =>
     have fU:=hm.r r row hr
     cases hd:τ.deep with
     | true=>simp [dk,hr,hd,Cv.row] at ha
     | false =>
      simp only [dk,hr,hd,Cv.row,Cv.inner] at ha
      have fz4:(row.ow=4\/row.ow=3)->a=⟨.l τ y,none,none,4⟩->gm X O' w' (dY key e c dS) a.ct v:=by
       rintro ho rfl
       simp only at hle ⊢
       refine shut _ _ hd dk (by omega) (fun g hg hi=>toF g ?_ (by omega))
       obtain ⟨row',cC,hi⟩:=hi
       rw [fU] at cC; cases cC
       exact fzF g hg (by rcases ho with ho | ho<;>rw [ho] at hi<;>exact hi)
      revert ha; split
      ·rename_i ho
       intro ha; cases ha
       simp only at hle ⊢
       refine shut _ _ hd dk (by omega) (fun g hg hi=>toF g ?_ (by omega))
       obtain ⟨row',cC,hi⟩:=hi
       rw [fU] at cC; cases cC
       rw [ho] at hi
       exact h.XS r rfl g _ _ hi
      ·rename_i ho; intro ha; exact fz4 (.inl ho) (Option.some.inj ha).symm
      ·rename_i ho; intro ha; exact fz4 (.inr ho) (Option.some.inj ha).symm
      ·rename_i h5 h4 h3
       intro ha; cases ha
       simp only at hle ⊢
       refine shut _ _ hd dk (by omega) (fun g hg hi=>toB g hg ?_ (by omega))
       obtain ⟨row',cC,hi⟩:=hi
       rw [fU] at cC; cases cC
       have:∀ e c,dY r e c row.ow= .ni:=by
        intro e c; simp only [dY]
       rw [this] at hi; exact hi
   | _=>simp [dk] at ha
 | ns r e' c' off len =>
  simp only [Lk.eR] at ha
  cases dk:(m.vw (.ns r e' c' off len)).ct with
  | none=>simp [dk] at ha
  | some ct =>
   cases ct with
   | l τ y =>
    cases hr:m.r r with
    | none=>simp [dk,hr,Cv.row] at ha
    | some row =>
     have fU:=hm.r r row hr
     cases hd:τ.deep with
     | true=>simp [dk,hr,hd,Cv.row] at ha
     | false =>
      simp only [dk,hr,hd,Cv.row,Cv.inner] at ha
      have fz4:(row.ow=4\/row.ow=3)->a=⟨.l τ y,none,none,4⟩->gm X O' w' (dY key e c dS) a.ct v:=by
       rintro ho rfl
       simp only at hle ⊢
       refine shut _ _ hd dk (by omega) (fun g hg hi=>toF g ?_ (by omega))
       obtain ⟨row',cC,hi⟩:=hi
       rw [fU] at cC; cases cC
       exact fzF g hg (by rcases ho with ho | ho<;>rw [ho] at hi<;>exact hi)
      revert ha; split
      ·rename_i ho
       intro ha; cases ha
       simp only at hle ⊢
       refine shut _ _ hd dk (by omega) (fun g hg hi=>toF g ?_ (by omega))
       obtain ⟨row',cC,hi⟩:=hi
       rw [fU] at cC; cases cC
       rw [ho] at hi
       exact h.XS r rfl g _ _ hi
      ·rename_i ho; intro ha; exact fz4 (.inl ho) (Option.some.inj ha).symm
      ·rename_i ho; intro ha; exact fz4 (.inr ho) (Option.some.inj ha).symm
      ·rename_i h5 h4 h3
       intro ha; cases ha
       simp only at hle ⊢
       refine shut _ _ hd dk (by omega) (fun g hg hi=>toB g hg ?_ (by omega))
       obtain ⟨row',cC,hi⟩:=hi
       rw [fU] at cC; cases cC
       have:∀ e c,dY r e c row.ow= .ni:=by
        intro e c; simp only [dY]
       rw [this] at hi; exact hi
   | _=>simp [dk] at ha
 | _=>simp [Lk.eR,Lk.vw,Vw.ct] at ha
structure Jb (M:Lk) (γ:Gh) (w:World) (O':OM) (w':World) (xs:List Cv) (mv:List (Nat×(Nat×Nat))) (sh:List (Nat×Nat)) (key dS:Nat):Prop where
 heap:∀ g o,w.heap[g]? =some o->(∃ x∈xs,GA M γ x g)->w'.heap[g]? =some o
 Yb:∀ g,g<w.heap.size->(γ.O g=none\/γ.O g=some .fz)->O' g=γ.O g
 mv:∀ r e c,(r,(e,c))∈mv->∀ g,γ.O g=some (.r r)->In (dY key e c dS) (O' g)
 ZR:∀ r,(r,3)∈sh->∀ g,γ.O g=some (.r r)->O' g=some .fz
 XS:∀ r,(r,4)∈sh->∀ g e c,γ.O g=some (.n r e c)->O' g=some .fz
theorem Jb.mono {O':OM} {xs ys:List Cv} {mv mv':List (Nat×(Nat×Nat))} {sh sh':List (Nat×Nat)} {key dS:Nat} (h:Jb M γ w O' w' xs mv sh key dS) (hx:∀ x∈ys,x∈xs) (EG:∀ p∈mv',p∈mv)
  (Gl:∀ p∈sh',p∈sh):Jb M γ w O' w' ys mv' sh' key dS :=
 ⟨fun g o hg hi=>h.heap g o hg (let ⟨x,Al,hi⟩:=hi; ⟨x,hx x Al,hi⟩),h.Yb,
  fun r e c hr=>h.mv r e c (EG _ hr),fun r hr=>h.ZR r (Gl _ hr),fun r hr=>h.XS r (Gl _ hr)⟩
theorem A9 (hm:Le m M) (hR:Rel X M γ w) {key dS e:Nat} (tM:dS=2\/dS=4\/dS=5) {O':OM} {w':World} :
  ∀ (vl:List Cv) (us:List Value) (c:Nat) (a:I9),cj M γ vl us->m.bW e c vl=some a->dS<=a.lv->Jb M γ w O' w' vl a.mv a.sh key dS ->
   a.iJ.length=vl.length/\∀ j ct,a.iJ[j]? =some ct->∃ u,us[j]? =some u/\gm X O' w' (dY key e (c+j) dS) ct u:=by
 intro vl
 induction vl with
 | nil=>intro us c a hr ha _ _; simp only [Lk.bW,zA] at ha; subst ha; exact ⟨rfl,by simp⟩
 | cons x vl ih =>
  intro us c a hr ha hle hO
  cases hr with
  | cons hx hl =>
   rename_i v us
   simp only [Lk.bW] at ha
   cases tP:m.eR x with
   | none=>simp [tP] at ha
   | some a1 =>
    cases eL:m.bW e (c+1) vl with
    | none=>simp [tP,eL] at ha
    | some a2 =>
     simp only [tP,eL,zA] at ha; subst ha
     simp only at hle hO ⊢
     have h2:Jb M γ w O' w' vl a2.mv a2.sh key dS:=hO.mono (fun x hx=>zJ _ hx) (fun p hp=>by split; exact zJ _ hp; exact hp)
      (fun p hp=>by split; exact zJ _ hp; exact hp)
     obtain ⟨i1,i2⟩:=ih us (c+1) a2 hl eL (by omega) h2
     have h1:AbO M γ w O' w' x a1 key e c dS:=by
      refine ⟨fun g o hg hi=>hO.heap g o hg ⟨x,by simp,hi⟩,hO.Yb,fun r hr=> ?_,fun r hr=> ?_,fun r hr=> ?_⟩
      ·have:=hO.mv r e c (by rw [hr]; simp)
       exact this
      ·exact hO.ZR r (by rw [hr]; simp)
      ·exact hO.XS r (by rw [hr]; simp)
     have h0:=Nj hm hR hx tP (key:=key) (e:=e) (c:=c) tM (by omega) h1
     refine ⟨by simp [i1],fun j ct hj=> ?_⟩
     cases j with
     | zero=>simp only [List.getElem?_cons_zero,zA] at hj; subst hj; exact ⟨v,rfl,h0⟩
     | succ j =>
      obtain ⟨u,hu,hc⟩:=i2 j ct (by simpa using hj)
      exact ⟨u,by simpa using hu,by rw [show c+(j+1)=c+1+j by omega]; exact hc⟩
theorem rh {τ:Ty} {l:List Ct} {y:El τ} (h:sj τ l=some y) (hb:τ.isByte=true->Di τ l=true):cells τ y=l:=by
 revert h hb
 fun_cases sj τ l
 case case3 n =>
  intro h hb
  cases h
  have hb:=hb rfl
  simp only [Di,zB,zD] at hb
  obtain ⟨h0,h1⟩:=hb
  have:((UInt8.ofNat n.toNat).toNat:Int)=n:=by
   have h2:n.toNat<256:=by omega
   simp only [UInt8.toNat_ofNat']
   rw [Nat.mod_eq_of_lt (by simpa using h2)]
   omega
  simp only [cells,this]
 all_goals (intro h hb; first | (cases h; rfl) | (exfalso; rw [sj.eq_11 _ _ (by assumption) (by assumption) (by assumption) (by assumption) (by assumption) (by assumption) (by assumption) (by assumption) (by assumption) (by assumption)] at h; cases h))
theorem ft {a:Nat} {l:List Nat}:cp a l=true↔a∈l:=by
 induction l with
 | nil=>simp [cp]
 | cons b l ih =>
  simp only [cp,zI]
  cases h:Nat.beq b a with
  | true=>have:=aM h; simp [this]
  | false =>
   simp only [ih]; constructor
   ·exact .inr
   ·rintro (rfl | h')
    ·rw [Nat.beq_refl] at h; cases h
    ·exact h'
theorem gO {l:List Nat}:fC l=true↔l.Nodup:=by
 induction l with
 | nil=>simp [fC]
 | cons a l ih =>
  simp only [fC,List.nodup_cons,← ft]
  cases h:cp a l<;>simp [ih]
theorem keys_eq {α:Type} (l:List (Nat×α)):keys l=l.map (·.1):=by
 induction l with
 | nil=>rfl
 | cons p l ih=>obtain ⟨k,v⟩:=p; simp [keys,ih]
theorem cU {α:Type} {l:List (Nat×α)} {k:Nat} {v:α} (h:lk l k=some v):(k,v)∈l:=by
 induction l with
 | nil=>simp [lk] at h
 | cons p l ih =>
  obtain ⟨j,u⟩:=p
  simp only [lk] at h
  cases hj:Nat.beq j k with
  | true=>simp only [hj,zA] at h; have:=aM hj; subst this; subst h; simp
  | false=>simp only [hj] at h; exact zJ _ (ih h)
theorem cL {α:Type} {l:List (Nat×α)} {k:Nat}:lk l k=none↔k∉keys l:=by
 induction l with
 | nil=>simp [lk,keys]
 | cons p l ih =>
  obtain ⟨j,u⟩:=p
  simp only [lk,keys,zI,not_or]
  cases hj:Nat.beq j k with
  | true=>have:=aM hj; simp [this]
  | false =>
   simp only [ih]; constructor
   ·intro h; exact ⟨(by rintro rfl; rw [Nat.beq_refl] at hj; cases hj),h⟩
   ·exact fun h=>h.2
theorem mem_keys {α:Type} {l:List (Nat×α)} {k:Nat} {v:α} (h:(k,v)∈l):k∈keys l:=by rw [keys_eq]; exact List.mem_map_of_mem h
theorem gA {α:Type} {l:List (Nat×α)} {k:Nat} {v:α} (hn:(keys l).Nodup) (h:(k,v)∈l):lk l k=some v:=by
 induction l with
 | nil=>simp at h
 | cons p l ih =>
  obtain ⟨j,u⟩:=p
  simp only [keys,List.nodup_cons] at hn
  simp only [lk]
  rcases zI.1 h with h | h
  ·cases h; simp [Nat.beq_refl]
  ·have cT:Nat.beq j k=false:=by
    cases hj:Nat.beq j k with
    | false=>rfl
    | true=>have:=aM hj; subst this; exact absurd (mem_keys h) hn.1
   simp [cT,ih hn.2 h]
theorem iF {α:Type} (a b:List (Nat×α)) (k:Nat):fx (a++b) k=match fx b k with | some v=>some v | none=>fx a k:=by
 induction a with
 | nil=>simp [fx]; cases fx b k<;>rfl
 | cons p a ih =>
  obtain ⟨j,u⟩:=p
  simp only [List.cons_append,fx,ih]
  cases fx b k<;>rfl
theorem Ln {α:Type} (j:Nat) (v:α) (k:Nat):fx [(j,v)] k=if j=k then some v else none:=rfl
def dn (dS key e c:Nat):Ow:=match dS with | 5=> .n key e c | _=> .fz
theorem KI {dS key e c:Nat} (tM:dS=2\/dS=4\/dS=5):In (dY key e c dS) (some (dn dS key e c)):=by
 rcases tM with rfl | rfl | rfl
 ·exact .inr rfl
 ·exact rfl
 ·exact rfl
structure Ro where
 key:Nat
 dS:Nat
 qv:Bool
 dead:Nat->Nat->Bool
 mv:List (Nat×(Nat×Nat))
 sh:List (Nat×Nat)
def Ro.f (a:Ro):Ow->Option Ow
 | .r k=>match lk a.mv k with
  | some (e,c)=>some (dn a.dS a.key e c)
  | none=>match lk a.sh k with
   | some 3=>some .fz
   | _=>if k=a.key then (if a.qv then some (.r k) else none) else some (.r k)
 | .n k e c=>match lk a.sh k with
  | some _=>some .fz
  | none=>if k=a.key then (if a.dead e c then none else some (dn a.dS a.key e c)) else some (.n k e c)
 | o=>some o
def Ro.R (a:Ro) (r:Nat):Prop:=r=a.key\/r∈keys a.mv\/r∈keys a.sh
def Ro.O (a:Ro) (O:OM) (nb:Option Nat):OM:=fun g=>if some g=nb then some (.r a.key) else (O g).bind a.f
def Ro.apart (a:Ro):Prop:=(a.key::(keys a.mv++keys a.sh)).Nodup
theorem Ro.Od (a:Ro) {o:Ow} (h:∀ r,a.R r->o≠ .r r/\∀ e c,o≠ .n r e c):a.f o=some o:=by
 cases o with
 | r k =>
  have hk:¬ a.R k:=fun hr=>(h k hr).1 rfl
  simp only [Ro.R,not_or] at hk
  simp [Ro.f,cL.2 hk.2.1,cL.2 hk.2.2,hk.1]
 | n k e c =>
  have hk:¬ a.R k:=fun hr=>(h k hr).2 e c rfl
  simp only [Ro.R,not_or] at hk
  simp [Ro.f,cL.2 hk.2.2,hk.1]
 | _=>rfl
theorem Ro.XE (a:Ro) (cz:∀ g,w.heap.size<=g->γ.O g=none) {nb:Option Nat} {rv':Nat->Value} {cv':Nat->List Value} (Zc:w'.os=w.os) (C5:w'.tape=w.tape)
  (wj:w'.output=w.output) (mH:w.heap.size<=w'.heap.size) (hn:∀ g,some g=nb->w.heap.size<=g/\g<w'.heap.size)
  (hb:∀ g,g<w.heap.size->γ.O g≠some (.r a.key)->w'.heap[g]? =w.heap[g]?) (wy:∀ r,r≠a.key->rv' r=γ.rv r/\cv' r=γ.cv r) :
  Kn a.R γ w { γ with O:=a.O γ.O nb,rv:=rv',cv:=cv' } w':=by
 refine ⟨Zc,C5,wj,mH,fun g hg hk=>⟨hb g hg ?_,?_⟩,fun g hg=> ?_,rfl,fun r hr=>wy r fun e=>hr (.inl e)⟩
 ·exact (hk a.key (.inl rfl)).1
 ·have CM:¬ some g=nb:=fun h=>by have:=hn g h; omega
  simp only [Ro.O,if_neg CM]
  cases ho:γ.O g with
  | none=>rfl
  | some o =>
   show a.f o=some o
   exact a.Od fun r hr=>by
    obtain ⟨h1,h2⟩:=hk r hr
    rw [ho] at h1 h2
    exact ⟨fun e=>h1 (congrArg some e),fun e c e'=>h2 e c (congrArg some e')⟩
 ·have CM:¬ some g=nb:=fun h=>by have:=hn g h; omega
  simp only [Ro.O,if_neg CM,cz g (Nat.le_trans mH hg)]
  rfl
theorem Ro.XA (a:Ro) (ll:a.apart) (tM:a.dS=2\/a.dS=4\/a.dS=5) {nb:Option Nat} (hn:∀ g,some g=nb->w.heap.size<=g) (cz:∀ g,w.heap.size<=g->γ.O g=none) {xs:List Cv}
  (heap:∀ g o,w.heap[g]? =some o->(∃ x∈xs,GA M γ x g)->w'.heap[g]? =some o) :
  Jb M γ w (a.O γ.O nb) w' xs a.mv a.sh a.key a.dS:=by
 have hmn:(keys a.mv).Nodup:=by
  have:=ll; simp only [Ro.apart,List.nodup_cons,List.nodup_append] at this; exact this.2.1
 have WT:(keys a.sh).Nodup:=by
  have:=ll; simp only [Ro.apart,List.nodup_cons,List.nodup_append] at this; exact this.2.2.1
 have N0:∀ k,k∈keys a.sh->lk a.mv k=none:=by
  intro k hk
  rw [cL]
  intro uZ
  have:=ll; simp only [Ro.apart,List.nodup_cons,List.nodup_append] at this
  exact this.2.2.2 k uZ k hk rfl
 have hO:∀ g o,γ.O g=some o->a.O γ.O nb g=a.f o:=by
  intro g o ho
  have CM:¬ some g=nb:=fun h=>by have:=cz g (hn g h); rw [this] at ho; cases ho
  simp only [Ro.O,if_neg CM,ho]; rfl
 refine ⟨heap,fun g hg hi=> ?_,fun r e c hr g hg=> ?_,fun r hr g hg=> ?_,fun r hr g e c hg=> ?_⟩
 ·rcases hi with h | h
  ·have CM:¬ some g=nb:=fun h'=>by have:=hn g h'; omega
   simp only [Ro.O,if_neg CM,h]; rfl
  ·rw [hO g _ h,h]; rfl
 ·rw [hO g _ hg]
  simp only [Ro.f,gA hmn hr]
  exact KI tM
 ·rw [hO g _ hg]
  simp only [Ro.f,N0 r (mem_keys hr),gA WT hr]
 ·rw [hO g _ hg]
  simp only [Ro.f,gA WT hr]
theorem Ro.shared (a:Ro) (ll:a.apart) {nb:Option Nat} (hn:∀ g,some g=nb->w.heap.size<=g) (cz:∀ g,w.heap.size<=g->γ.O g=none)
  (hb:∀ g,g<w.heap.size->γ.O g≠some (.r a.key)->w'.heap[g]? =w.heap[g]?) {r k:Nat} {row:Row} {v:Value} {cs:List Value} (br:cX X γ.O w r row v cs) (hr:(r,k)∈a.sh)
  (hk:(k=3/\oq 4 row.ow=true)\/(k=4/\row.ow=5)):cX X (a.O γ.O nb) w' r { row with ow:=k } v cs:=by
 have WT:(keys a.sh).Nodup:=by
  have:=ll; simp only [Ro.apart,List.nodup_cons,List.nodup_append] at this; exact this.2.2.1
 have N0:lk a.mv r=none:=by
  rw [cL]
  intro uZ
  have:=ll; simp only [Ro.apart,List.nodup_cons,List.nodup_append] at this
  exact this.2.2.2 r uZ r (mem_keys hr) rfl
 have uX:r≠a.key:=by
  have:=ll; simp only [Ro.apart,List.nodup_cons,zH,not_or] at this
  rintro rfl; exact this.1.2 (mem_keys hr)
 have hO:∀ g o,γ.O g=some o->a.O γ.O nb g=a.f o:=by
  intro g o ho
  have CM:¬ some g=nb:=fun h=>by have:=cz g (hn g h); rw [this] at ho; cases ho
  simp only [Ro.O,if_neg CM,ho]; rfl
 have AF:=gA WT hr
 have gV:row.ow=4\/row.ow=5:=by
  rcases hk with ⟨_,h⟩ | ⟨_,h⟩
  ·revert h; simp only [oq]; split<;>simp_all
  ·exact .inr h
 have fr:(k=3->a.f (.r r)=some .fz)/\(k=4->a.f (.r r)=some (.r r)):=by
  refine ⟨fun h=> ?_,fun h=> ?_⟩
  ·subst h; simp only [Ro.f,N0,AF]
  ·subst h; simp only [Ro.f,N0,AF]
   show (if r=a.key then _ else some (Ow.r r))=_
   rw [if_neg uX]
 refine br.re ?_ (fun g o hg hi=> ?_) (fun e c g o hg hi=> ?_)
 ·rcases hk with ⟨rfl,_⟩ | ⟨rfl,h⟩
  ·rcases gV with h | h<;>rw [h]<;>rfl
  ·rw [h]; rfl
 ·have hi:γ.O g=some (.r r):=by rcases gV with h | h<;>rw [h] at hi<;>exact hi
  refine ⟨(hb g (b9 hg) (by rw [hi]; simp; exact uX)).trans hg,?_⟩
  rw [hO g _ hi]
  rcases hk with ⟨rfl,_⟩ | ⟨rfl,_⟩
  ·rw [fr.1 rfl]; rfl
  ·rw [fr.2 rfl]; rfl
 ·have hi:γ.O g=some (.n r e c)\/γ.O g=some .fz:=by
   rcases gV with h | h<;>rw [h] at hi
   ·exact .inr hi
   ·exact .inl hi
  have h5:a.O γ.O nb g=some .fz:=by
   rcases hi with hi | hi
   ·rw [hO g _ hi]; simp only [Ro.f,AF]
   ·rw [hO g _ hi]; rfl
  refine ⟨(hb g (b9 hg) (by rcases hi with h | h<;>rw [h]<;>simp)).trans hg,?_⟩
  rw [h5]
  rcases hk with ⟨rfl,_⟩ | ⟨rfl,_⟩<;>rfl
theorem Ol (hR:Rel X S.lk γ w)
  (EG:∀ r d e c row,lk δ.mv r=some (d,e,c)->S.lk.r r=some row->∃ row',(S.app δ).lk.r d=some row'/\e<row'.xs.length/\(row'.cs e)[c]? =some (.l row.τ row.xs) /\
   (γ'.cv d)[e*sz row'.τ+c]? =some (γ.rv r))
  (hw:∀ r row,S.lk.r r=some row->lk δ.mv r=none->cp r δ.kr=false->(∃ row',(S.app δ).lk.r r=some row')/\γ'.rv r=γ.rv r)
  (hr:∀ r row row',S.lk.r r=some row->lk δ.mv r=none->cp r δ.kr=false->cp r δ.ke=false->(S.app δ).lk.r r=some row'->row'.τ=row.τ/\row.xs.length<=row'.xs.length)
  (hn:∀ r,lk δ.mv r=none->cp r δ.kr=false->cp r δ.ke=false->cp r δ.kn=false->PJ S.lk γ (S.app δ).lk γ' r)
  (hv:∀ k cs,S.lk.v k=some cs->cp k δ.kv=false->(∃ cs',(S.app δ).lk.v k=some cs')/\γ'.vb k=γ.vb k) :
  ∀ x v,bu S.lk γ x v->bu (S.app δ).lk γ' (δ.map x) v:=by
 intro x v hx
 rcases EB δ x with h | ⟨h,h1,h2⟩ | ⟨r,d,e,c,h,hh⟩
 ·rw [h]; exact hx.one hR
 ·rw [h]
  by_cases hs:∃ r,x= .sw r
  ·obtain ⟨r,rfl⟩:=hs
   obtain ⟨⟨row,br⟩,rfl⟩:=hx
   obtain ⟨h0,h3,_⟩:=h1 r rfl
   obtain ⟨h4,h5⟩:=hw r row br h0 h3
   exact ⟨h4,h5.symm⟩
  ·have CX:∀ s,x≠ .sw s:=fun s e=>hs ⟨s,e⟩
   have br:∀ r,x.row=some r->∃ row,S.lk.r r=some row:=by
    intro r NW
    cases x<;>simp [Cv.row] at NW<;>subst NW
    case sw r=>exact absurd rfl (CX r)
    case sl=>obtain ⟨row,h,_⟩:=hx; exact ⟨row,h⟩
    case nw=>obtain ⟨row,_,_,h,_⟩:=hx; exact ⟨row,h⟩
    case ns=>obtain ⟨row,_,_,_,h,_⟩:=hx; exact ⟨row,h⟩
    case pe=>obtain ⟨row,h,_⟩:=hx; exact ⟨row,h⟩
    case pn=>obtain ⟨row,_,_,_,h,_⟩:=hx; exact ⟨row,h⟩
   have DB:∀ k∈x.vk,∃ cs,S.lk.v k=some cs:=by
    intro k hk
    cases x<;>simp [Cv.vk] at hk
    case pv=>subst hk; exact hx.1
    case fn=>exact hx.1 k hk
   refine hx.re (fun r cC=> ?_) (fun r cC hi=> ?_) (fun k hk=> ?_)
   ·obtain ⟨h0,h3,h4,_⟩:=h1 r cC
    obtain ⟨row,Lz⟩:=br r cC
    obtain ⟨⟨row',h5⟩,h6⟩:=hw r row Lz h0 h3
    refine ⟨fun row2 h7=> ?_,h6⟩
    rw [Lz] at h7; cases h7
    obtain ⟨h8,h9⟩:=hr r row row' Lz h0 h3 (h4 CX) h5
    exact ⟨row',h5,h8,h9⟩
   ·obtain ⟨h0,h3,h4,h5⟩:=h1 r cC
    exact hn r h0 h3 (h4 CX) (h5 hi)
   ·obtain ⟨cs,je⟩:=DB k hk
    obtain ⟨h3,h4⟩:=hv k cs je (h2 k hk)
    exact ⟨fun _ _=>h3,h4⟩
 ·rcases hh with ⟨rfl,hm⟩ | ⟨o,n,rfl,hm⟩ | ⟨k,i,rfl,hm⟩
  ·obtain ⟨⟨row,br⟩,rfl⟩:=hx
   obtain ⟨row',h1,h2,h3,h4⟩:=EG r d e c row h br
   rw [hm]; exact ⟨row',row.τ,row.xs,h1,h2,h3,h4⟩
  ·obtain ⟨row,br,hle,hs⟩:=hx
   obtain ⟨row',h1,h2,h3,h4⟩:=EG r d e c row h br
   rw [hm]; exact ⟨row',row.τ,row.xs,_,h1,h2,h3,h4,hle,hs⟩
  ·obtain ⟨row,br,hle,hs⟩:=hx
   obtain ⟨row',h1,h2,h3,h4⟩:=EG r d e c row h br
   rw [hm]; exact ⟨row',row.τ,row.xs,_,h1,h2,h3,h4,hle,hs⟩
theorem uf {α:Type} (l m:List α) (i N:Nat) (h:i+m.length<=N) (hN:N<=l.length):(Soft.cY l i m).take N=Soft.cY (l.take N) i m:=by
 apply List.ext_getElem?
 intro j
 rw [List.getElem?_take]
 rcases Nat.lt_trichotomy j i with hj | hj | hj
 ·rw [if_pos (by omega),c8 _ _ _ _ hj (by omega),c8 _ _ _ _ hj (by simp; omega),List.getElem?_take,if_pos (by omega)]
 all_goals
  by_cases h2:j<i+m.length
  ·obtain ⟨d,rfl⟩:∃ d,j=i+d:=⟨j-i,by omega⟩
   rw [if_pos (by omega),dK _ _ _ _ (by omega) (by omega),dK _ _ _ _ (by omega) (by simp; omega)]
  ·rw [cZ _ _ _ _ (by omega) (by omega),cZ _ _ _ _ (by omega) (by simp; omega),List.getElem?_take]
theorem oK {a:Nat} (h:eG a=true):a=2\/a=4\/a=5:=by revert h; simp only [eG]; split<;>simp_all
theorem ug {a:Nat} (h:eG a=true):a≠1:=by rcases oK h with rfl | rfl | rfl<;>decide
theorem IS {r:Nat} {row':Row} (h:row'.ow≠1) (k:Nat) (row:Row) (e:(if r=k then some (some row') else none)=some (some row)) (h1:row.ow=1):k<100000:=by
 by_cases hk:r=k
 ·rw [if_pos hk] at e; cases e; exact absurd h1 h
 ·rw [if_neg hk] at e; cases e
theorem FH {a l:Nat} (h:eG a=true) (hl:l=2\/l=4\/l=5):(min a l=2\/min a l=4\/min a l=5)/\eG (min a l)=true/\oq (min a l) a=true:=by
 rcases oK h with rfl | rfl | rfl<;>rcases hl with rfl | rfl | rfl<;>simp [eG,oq]
theorem M8 {x:Cv} {a:Ab} (h:m.eR x=some a):a.lv=2\/a.lv=4\/a.lv=5:=by
 have lv:∀ n,SR n=2\/SR n=4\/SR n=5:=by intro n; simp only [SR]; split<;>simp
 revert h; simp only [Lk.eR]
 repeat' split
 all_goals (intro h; first | (cases h; done) | (have:=Option.some.inj h; subst this; first | (simp; done) | exact lv _))
theorem qL:∀ {vl:List Cv} {e c:Nat} {a:I9},m.bW e c vl=some a->a.lv=2\/a.lv=4\/a.lv=5
 | [],e,c,a,h=>by simp only [Lk.bW,zA] at h; subst h; simp
 | x::vl,e,c,a,h=>by
  simp only [Lk.bW] at h
  cases h1:m.eR x with
  | none=>simp [h1] at h
  | some a1 =>
   cases h2:m.bW e (c+1) vl with
   | none=>simp [h1,h2] at h
   | some a2 =>
    simp only [h1,h2,zA] at h; subst h
    have:=M8 h1
    have:=qL h2
    simp only; omega
theorem M7 {x:Cv} {a:Ab} {r k:Nat} (h:m.eR x=some a) (hs:a.sh=some (r,k)):∃ row,m.r r=some row/\((k=3/\oq 4 row.ow=true)\/(k=4/\row.ow=5)):=by
 revert h; simp only [Lk.eR]
 repeat' split
 all_goals (intro h; first | (cases h; done) | (have:=Option.some.inj h; subst this; simp only [reduceCtorEq,zA,zG] at hs))
 ·obtain ⟨rfl,rfl⟩:=hs
  rename_i h1 h2 h3 _ h5
  exact ⟨_,by assumption,.inr ⟨rfl,by assumption⟩⟩
 ·obtain ⟨rfl,rfl⟩:=hs
  exact ⟨_,by assumption,.inl ⟨rfl,by assumption⟩⟩
theorem mE:∀ {vl:List Cv} {e c:Nat} {a:I9} {r k:Nat},m.bW e c vl=some a->(r,k)∈a.sh->∃ row,m.r r=some row/\((k=3/\oq 4 row.ow=true)\/(k=4/\row.ow=5))
 | [],e,c,a,r,k,h,hs=>by simp only [Lk.bW,zA] at h; subst h; simp at hs
 | x::vl,e,c,a,r,k,h,hs=>by
  simp only [Lk.bW] at h
  cases h1:m.eR x with
  | none=>simp [h1] at h
  | some a1 =>
   cases h2:m.bW e (c+1) vl with
   | none=>simp [h1,h2] at h
   | some a2 =>
    simp only [h1,h2,zA] at h; subst h
    simp only at hs
    cases h3:a1.sh with
    | none=>rw [h3] at hs; exact mE h2 hs
    | some p =>
     rw [h3] at hs
     rcases zI.1 hs with h4 | h4
     ·exact M7 h1 (by rw [h3,← h4])
     ·exact mE h2 h4
theorem m4:∀ {vl:List Cv} {e c:Nat} {a:I9},m.bW e c vl=some a->a.iJ.length=vl.length
 | [],e,c,a,h=>by simp only [Lk.bW,zA] at h; subst h; rfl
 | x::vl,e,c,a,h=>by
  simp only [Lk.bW] at h
  cases h1:m.eR x with
  | none=>simp [h1] at h
  | some a1 =>
   cases h2:m.bW e (c+1) vl with
   | none=>simp [h1,h2] at h
   | some a2 =>
    simp only [h1,h2,zA] at h; subst h
    simp [m4 h2]
theorem Mc {x:Cv} {a:Ab} {r:Nat} (h:m.eR x=some a) (hs:a.mv=some r):∃ row,m.r r=some row/\x= .sw r/\a.ct= .l row.τ row.xs:=by
 revert h; simp only [Lk.eR]
 repeat' split
 all_goals (intro h; first | (cases h; done) | (have:=Option.some.inj h; subst this; simp only [reduceCtorEq,zA] at hs))
 subst hs
 exact ⟨_,by assumption,rfl,rfl⟩
theorem BC:∀ {vl:List Cv} {e c:Nat} {a:I9} {r e' c':Nat},m.bW e c vl=some a->(r,(e',c'))∈a.mv->∃ row j,m.r r=some row/\e'=e/\c'=c+j/\vl[j]? =some (.sw r)/\a.iJ[j]? =some (.l row.τ row.xs)
 | [],e,c,a,r,e',c',h,hs=>by simp only [Lk.bW,zA] at h; subst h; simp at hs
 | x::vl,e,c,a,r,e',c',h,hs=>by
  simp only [Lk.bW] at h
  cases h1:m.eR x with
  | none=>simp [h1] at h
  | some a1 =>
   cases h2:m.bW e (c+1) vl with
   | none=>simp [h1,h2] at h
   | some a2 =>
    simp only [h1,h2,zA] at h; subst h
    simp only at hs
    have rest:(r,(e',c'))∈a2.mv->∃ row j,m.r r=some row/\e'=e/\c'=c+j/\(x::vl)[j]? =some (.sw r)/\(a1.ct::a2.iJ)[j]? =some (.l row.τ row.xs):=by
     intro h4
     obtain ⟨row,j,h5,h6,h7,h8,h9⟩:=BC h2 h4
     exact ⟨row,j+1,h5,h6,by omega,by simpa using h8,by simpa using h9⟩
    cases h3:a1.mv with
    | none=>rw [h3] at hs; exact rest hs
    | some k =>
     rw [h3] at hs
     rcases zI.1 hs with h4 | h4
     ·simp only [zG] at h4
      obtain ⟨rfl,rfl,rfl⟩:=h4
      obtain ⟨row,h5,rfl,h7⟩:=Mc h1 h3
      exact ⟨row,0,h5,rfl,rfl,rfl,by simpa using h7⟩
     ·exact rest h4
theorem Ja {x:Cv} {a:Ab} {r:Nat} {row:Row} (h:m.eR x=some a) (hx:x= .sw r\/∃ o n,x= .sl r o n) (hr:m.r r=some row) (ho:eG row.ow=true):a.mv=some r\/∃ k,a.sh=some (r,k):=by
 rcases hx with rfl | ⟨o,n,rfl⟩
 ·simp only [Lk.eR,hr,ho] at h
  revert h; split
  ·intro h; cases h
  ·intro h; cases h; exact .inl rfl
 ·simp only [Lk.eR,Cv.row,Cv.inner,hr,ho] at h
  revert h
  repeat' split
  all_goals (intro h; first | (cases h; done) | (cases h; exact .inr ⟨_,rfl⟩) | skip)
  all_goals simp_all
  all_goals (subst h; exact .inr ⟨_,rfl⟩)
theorem zo:∀ {vl:List Cv} {e c:Nat} {a:I9} {x:Cv} {r:Nat} {row:Row},m.bW e c vl=some a->x∈vl->(x= .sw r\/∃ o n,x= .sl r o n)->m.r r=some row->eG row.ow=true ->
  r∈keys a.mv\/r∈keys a.sh
 | [],e,c,a,x,r,row,h,hx,_,_,_=>by simp at hx
 | y::vl,e,c,a,x,r,row,h,hx,NW,hr,ho=>by
  simp only [Lk.bW] at h
  cases h1:m.eR y with
  | none=>simp [h1] at h
  | some a1 =>
   cases h2:m.bW e (c+1) vl with
   | none=>simp [h1,h2] at h
   | some a2 =>
    simp only [h1,h2,zA] at h; subst h
    simp only
    rcases zI.1 hx with rfl | hx
    ·rcases Ja h1 NW hr ho with h3 | ⟨k,h3⟩
     ·left; rw [h3]; simp [keys]
     ·right; rw [h3]; simp [keys]
    ·rcases zo h2 hx NW hr ho with h3 | h3
     ·left; split
      ·simp [keys,h3]
      ·exact h3
     ·right; split
      ·simp [keys,h3]
      ·exact h3
def qX (r e c:Nat) (row:Row) (vl:List Cv) (a:I9):Ro :=
 ⟨r,min row.ow a.lv,true,fun e' c'=>decide (e'=e)&&(decide (c<=c')&&decide (c'<c+vl.length)),a.mv,a.sh⟩
def Rh (γ:Gh) (r e c:Nat) (row:Row) (vl:List Cv) (a:I9) (us:List Value):Gh :=
 { γ with O:=(qX r e c row vl a).O γ.O none,cv:=eA γ.cv r (Soft.cY (γ.cv r) (e*sz row.τ+c) us) }
theorem vP {r e c ow k:Nat} {o:Option Ow} (h:In (dY r e c ow) o):o≠some (.r k):=by
 revert h; simp only [dY]; split
 ·intro h; have h:o=_:=h; rw [h]; simp
 ·intro h; have h:o=_:=h; rw [h]; simp
 ·intro h; have h:o=_:=h; rw [h]; simp
 ·rintro (h | h)<;>rw [h]<;>simp
theorem Ro.nes (a:Ro) (hk:a.key∉keys a.sh) {sA:Nat} (hold:eG sA=true) (tM:a.dS=2\/a.dS=4\/a.dS=5) (hle:oq a.dS sA=true) {e c g:Nat} {O:OM} (hd:a.dead e c=false)
  (h:In (dY a.key e c sA) (O g)):In (dY a.key e c a.dS) (a.O O none g):=by
 have hn:O g=none->a.O O none g=none:=fun h=>by simp [Ro.O,h]
 have hf:O g=some .fz->a.O O none g=some .fz:=fun h=>by simp [Ro.O,h,Ro.f]
 have ho:O g=some (.n a.key e c)->a.O O none g=some (dn a.dS a.key e c):=fun h=>by simp [Ro.O,h,Ro.f,cL.2 hk,hd]
 rcases oK hold with rfl | rfl | rfl
 ·have h2:a.dS=2:=by rcases tM with h | h | h<;>rw [h] at hle<;>simp_all [oq]
  rw [h2]
  rcases h with h | h
  ·exact .inl (hn h)
  ·exact .inr (hf h)
 ·have h:O g=some .fz:=h
  rcases tM with h2 | h2 | h2
  ·rw [h2]; exact .inr (hf h)
  ·rw [h2]; exact hf h
  ·rw [h2] at hle; simp [oq] at hle
 ·have h:O g=some (.n a.key e c):=h
  rw [ho h]
  exact KI tM
theorem OH (hR:Rel X S.lk γ w) (cz:∀ g,w.heap.size<=g->γ.O g=none) (hm:Le m S.lk) {r e c:Nat} {row:Row} {vl:List Cv} {a:I9} {y:El row.τ} {av v:Value} {t:TypeId}
  (hr:m.r r=some row) (ho:eG row.ow=true) (ha:m.bW e c vl=some a) (hlen:c+vl.length<=sz row.τ) (hy:sj row.τ (Soft.cY (row.cs e) c a.iJ)=some y)
  (xV:Di row.τ a.iJ=true) (ll:(qX r e c row vl a).apart) (hv:cj S.lk γ vl v.cells.toList) (QM:bu S.lk γ (.pe r e c) av) (hs:vl.length=gj X.P t) (hp:0<vl.length) :
  ∃ w',(Instr.storeAt t av v).run X.P w= .ok () w'/\Kn (qX r e c row vl a).R γ w (Rh γ r e c row vl a v.cells.toList) w' /\
   cX X ((qX r e c row vl a).O γ.O none) w' r { row with xs:=row.xs.set e y,ow:=min row.ow a.lv } (γ.rv r) (Soft.cY (γ.cv r) (e*sz row.τ+c) v.cells.toList) /\
   (∀ g,g<w.heap.size->γ.O g≠some (.r r)->w'.heap[g]? =w.heap[g]?)/\(∀ e':Nat,e'≠e->({ row with xs:=row.xs.set e y,ow:=min row.ow a.lv }:Row).cs e'=row.cs e') /\
   (({ row with xs:=row.xs.set e y,ow:=min row.ow a.lv }:Row).cs e=Soft.cY (row.cs e) c a.iJ)/\e<row.xs.length:=by
 have fU:=hm.r r row hr
 obtain ⟨row',cC,he,g,o,n',cap,hb,rfl⟩:=QM
 rw [fU] at cC; cases cC
 have br:=hR.rs r row fU
 have C0:dU r row.ow= .own (.r r):=by simp [dU,ho]
 have C5:=br.top
 rw [C0] at C5
 obtain ⟨gV,pc⟩:=C5
 obtain ⟨Wj,acQ,YK⟩:=FH ho (qL ha)
 have hul:v.cells.size=vl.length:=by have:=hv.length; simp at this; omega
 rcases gV.2 with ⟨h1,_⟩ | ⟨g1,cap1,cur,h1,_,hg,Iv,Rl,je,ht⟩
 ·rw [h1] at hb; cases hb
 have Nw:g1=g/\0=o:=by
  rw [h1] at hb; injection hb with h _ _; injection h with h; injection h with h2 h3 _; exact ⟨h2,h3⟩
 obtain ⟨rfl,rfl⟩:=Nw
 have Qc:γ.O g1=some (.r r):=pc g1 (by rw [h1]; rfl)
 have fW:=b9 hg
 have Wa:(e+1)*sz row.τ<=row.xs.length*sz row.τ:=zP _ he
 rw [Nat.add_mul] at Wa
 have Xn:row.xs.length*sz row.τ<=cur.size:=by rw [je]; exact zP _ Iv
 have nh:(γ.cv r).length=row.xs.length*sz row.τ:=gV.1
 have nE:=yH (X:=X) (t:=t) (v:=v) (o:=0+(e*sz row.τ+c)) hg (by omega) (by omega) (by omega) (hv.one hR)
 rw [Nat.zero_add] at nE
 have jg:∀ g,g<w.heap.size->γ.O g≠some (.r r)->(w.setRow g1 (Soft.cY cur.toList (e*sz row.τ+c) v.cells.toList).toArray).heap[g]? =w.heap[g]? :=
  fun g _ cT=>mj w _ _ g (fun h=>cT (by rw [h]; exact Qc))
 have ac7:=rh hy (fun NJ=>by
  have ib:row.τ= .byte:=by revert NJ; cases row.τ<;>simp [Ty.isByte]
  have:Soft.cY (row.cs e) c a.iJ=a.iJ:=by
   have h2:sz row.τ=1:=by rw [ib]; rfl
   have h3:(row.cs e).length=1:=by rw [vY,bf,h2]
   have h4:=(m4 ha)
   have h5:c=0:=by omega
   subst h5
   have h6:vl.length=1:=by omega
   simp only [Soft.cY,h4,h6,List.take_zero,List.nil_append,Nat.zero_add]
   rw [List.drop_of_length_le (by omega),List.append_nil]
  rw [this]; exact xV)
 have Ug:a.iJ.length=vl.length:=m4 ha
 have Wc:(row.cs e).length=sz row.τ:=bf _ _
 have Aj:({ row with xs:=row.xs.set e y,ow:=min row.ow a.lv }:Row).cs e=Soft.cY (row.cs e) c a.iJ:=by
  simp only [Row.cs]
  rw [show (row.xs.set e y).getD e (cy row.τ)=y by simp [List.getD,he]]
  exact ac7
 have F7:∀ e':Nat,e'≠e->({ row with xs:=row.xs.set e y,ow:=min row.ow a.lv }:Row).cs e'=row.cs e':=by
  intro e' cT
  simp only [Row.cs]
  rw [show (row.xs.set e y).getD e' (cy row.τ)=row.xs.getD e' (cy row.τ) by simp [List.getD,List.getElem?_set,Ne.symm cT]]
 have Lz:r∉keys a.mv/\r∉keys a.sh:=by
  have:=ll; simp only [Ro.apart,qX,List.nodup_cons,zH,not_or] at this; exact this.1
 have hOf:∀ g o,γ.O g=some o->(qX r e c row vl a).O γ.O none g=(qX r e c row vl a).f o:=by
  intro g o h; simp only [Ro.O,h]; simp
 have EI:(qX r e c row vl a).f (.r r)=some (.r r):=by
  simp [Ro.f,qX,cL.2 Lz.1,cL.2 Lz.2]
 refine ⟨_,by rw [Nat.zero_add]; exact nE,?_,?_,jg,F7,Aj,he⟩
 ·exact (qX r e c row vl a).XE cz rfl rfl rfl (by simp) (by simp) jg (fun r' cT=>by simp only [eA]; have cT:r'≠r:=cT; simp [cT])
 ·refine ⟨?_,fun e' c' ct UU dk=> ?_⟩
  ·have YP:dU r (min row.ow a.lv)= .own (.r r):=by simp [dU,acQ]
   rw [YP]
   refine ⟨⟨?_,.inr ⟨g1,cap1,_,?_,Nat.zero_le _,tg w _ _ _ _ _ hg,?_,Rl,?_,?_⟩⟩,fun g sB=> ?_⟩
   ·rw [im _ _ _ (by rw [nh]; simp; omega),nh]; simp
   ·rw [h1]; simp
   ·simpa using Iv
   ·simp [im _ _ _ (show e*sz row.τ+c+v.cells.toList.length<=cur.toList.length by simp; omega),je]
   ·rw [List.length_set]
    simp only [List.toList_toArray]
    rw [uf _ _ _ _ (by simp; omega) (by simpa using Xn),ht]
   ·rw [hOf g (.r r) (pc g sB),EI]
  ·have Tp:e'<row.xs.length:=by simpa using UU
   have sA:∀ ct u,(row.cs e')[c']? =some ct->gm X γ.O w (dY r e' c' row.ow) ct u->(e'≠e\/c'<c\/c+vl.length<=c') ->
     gm X ((qX r e c row vl a).O γ.O none) (w.setRow g1 (Soft.cY cur.toList (e*sz row.τ+c) v.cells.toList).toArray) (dY r e' c' (min row.ow a.lv)) ct u:=by
    intro ct u dk eO wj
    refine eO.re (fun g o hg hi=> ?_) (EU YK r r e' c')
    refine ⟨(jg g (b9 hg) (vP hi)).trans hg,?_⟩
    refine (qX r e c row vl a).nes Lz.2 ho Wj YK ?_ hi
    simp only [qX]
    by_cases h1:e'=e
    ·have h2:¬ (c<=c'/\c'<c+vl.length):=by omega
     simp only [h1,zV,Bool.true_and,Bool.and_eq_false_iff,decide_eq_false_iff_not]
     omega
    ·simp [h1]
   by_cases Kc:e'=e
   ·subst Kc
    rw [Aj] at dk
    by_cases z5:c<=c'/\c'<c+vl.length
    ·obtain ⟨j,rfl⟩:∃ j,c'=c+j:=⟨c'-c,by omega⟩
     rw [dK _ _ _ _ (by omega) (by omega)] at dk
     have V5:=(qX r e' c row vl a).XA (M:=S.lk) ll Wj (w:=w) (w':=w.setRow g1 (Soft.cY cur.toList (e'*sz row.τ+c) v.cells.toList).toArray) (γ:=γ) (nb:=none) (by simp) cz (xs:=vl)
      (fun g o hg hi=> ?_)
     ·obtain ⟨_,h2⟩:=A9 hm hR Wj vl _ c a hv ha (Nat.min_le_right _ _) V5
      obtain ⟨u,hu,eO⟩:=h2 j ct dk
      exact ⟨u,by rw [show e'*sz row.τ+(c+j)=e'*sz row.τ+c+j by omega,dK _ _ _ _ (by simp; omega) (by rw [nh]; simp; omega)]; exact hu,eO⟩
     ·refine (jg g (b9 hg) ?_).trans hg
      obtain ⟨x,hx,hi⟩:=hi
      have top:∀ r' row',(x= .sw r'\/∃ o n,x= .sl r' o n)->S.lk.r r'=some row'->In (dU r' row'.ow) (γ.O g)->γ.O g≠some (.r r):=by
       intro r' row' NW cC z5 heq
       have adw:r'=r:=by
        rcases Fz z5 with h | h | h | ⟨_,_,h⟩<;>rw [heq] at h<;>simp at h
        exact h.symm
       subst adw
       rcases zo ha hx NW hr ho with h | h
       ·exact Lz.1 h
       ·exact Lz.2 h
      cases x<;>simp only [GA] at hi<;>try exact hi.elim
      all_goals obtain ⟨row',cC,z5⟩:=hi
      ·exact top _ _ (.inl rfl) cC z5
      ·exact top _ _ (.inr ⟨_,_,rfl⟩) cC z5
      ·exact vP z5
      ·exact vP z5
    ·have wj:c'<c\/c+vl.length<=c':=by omega
     have Qg:(row.cs e')[c']? =some ct:=by
      rcases wj with h | h
      ·rwa [c8 _ _ _ _ h (by omega)] at dk
      ·rwa [cZ _ _ _ _ (by omega) (by omega)] at dk
     obtain ⟨u,hu,eO⟩:=br.rU e' c' ct Tp Qg
     have lS:c'<sz row.τ:=by have:=(zU.1 Qg).1; omega
     refine ⟨u,?_,sA ct u Qg eO (.inr wj)⟩
     show (Soft.cY (γ.cv r) (e'*sz row.τ+c) _)[e'*sz row.τ+c']? =some u
     rcases wj with h | h
     ·rw [c8 _ _ _ _ (by omega) (by rw [nh]; omega)]; exact hu
     ·rw [cZ _ _ _ _ (by simp; omega) (by rw [nh]; simp; omega)]; exact hu
   ·rw [F7 e' Kc] at dk
    obtain ⟨u,hu,eO⟩:=br.rU e' c' ct Tp dk
    have lS:c'<sz row.τ:=by have:=(zU.1 dk).1; rw [vY,bf] at this; exact this
    refine ⟨u,?_,sA ct u dk eO (.inl Kc)⟩
    show (Soft.cY (γ.cv r) (e*sz row.τ+c) _)[e'*sz row.τ+c']? =some u
    rcases Nat.lt_or_gt_of_ne Kc with h | h
    ·have h3:(e'+1)*sz row.τ<=e*sz row.τ:=zP _ h
     rw [Nat.add_mul] at h3
     rw [c8 _ _ _ _ (by omega) (by rw [nh]; omega)]; exact hu
    ·have h3:(e+1)*sz row.τ<=e'*sz row.τ:=zP _ h
     rw [Nat.add_mul] at h3
     rw [cZ _ _ _ _ (by simp; omega) (by rw [nh]; simp; omega)]; exact hu
theorem O6 (mv:List (Nat×(Nat×Nat))) (k:Nat):fx (gone mv) k=if k∈keys mv then some none else none:=by
 induction mv with
 | nil=>simp [gone,fx,keys]
 | cons p mv ih =>
  obtain ⟨j,q⟩:=p
  simp only [gone,fx,ih,keys,zI]
  by_cases h1:k∈keys mv
  ·simp [h1]
  ·by_cases h2:j=k
   ·simp [h1,h2]
   ·simp [h1,h2,Ne.symm h2]
theorem M3 {sh:List (Nat×Nat)} (hn:(keys sh).Nodup) (hp:∀ r k,(r,k)∈sh->∃ row,m.r r=some row) (k:Nat) :
  fx (m.share sh) k=match lk sh k with | some n=>(m.r k).map (fun row=>some { row with ow:=n }) | none=>none:=by
 induction sh with
 | nil=>rfl
 | cons p sh ih =>
  obtain ⟨r,n⟩:=p
  simp only [keys,List.nodup_cons] at hn
  obtain ⟨row,hr⟩:=hp r n (by simp)
  have ih:=ih hn.2 (fun r k h=>hp r k (zJ _ h))
  simp only [Lk.share,hr,fx,lk]
  cases hb:Nat.beq r k with
  | true =>
   have:=aM hb; subst this
   rw [ih,cL.2 hn.1]
   simp [hr]
  | false =>
   have cT:¬ r=k:=by rintro rfl; rw [Nat.beq_refl] at hb; cases hb
   rw [ih]
   simp only [cT,if_false]
   cases lk sh k with
   | none=>rfl
   | some n=>cases m.r k<;>rfl
theorem PB (r:Nat) (mv:List (Nat×(Nat×Nat))) (k:Nat):lk (Vf r mv) k=(lk mv k).map fun p=>(r,p.1,p.2):=by
 induction mv with
 | nil=>rfl
 | cons p mv ih =>
  obtain ⟨j,e,c⟩:=p
  simp only [Vf,lk]
  cases Nat.beq j k<;>simp [ih]
def VI (m:Lk) (r:Nat) (row':Row) (a:I9):Dl:={ Dl.z with mv:=Vf r a.mv,kn:=[r],rs:=gone a.mv++(m.share a.sh++[(r,some row')]) }
theorem yc {r:Nat} {row':Row} {a:I9} (ll:(r::(keys a.mv++keys a.sh)).Nodup) (hp:∀ r k,(r,k)∈a.sh->∃ row,m.r r=some row) (k:Nat) :
  fx (VI m r row' a).rs k=if r=k then some (some row') else match lk a.sh k with
   | some n=>(m.r k).map (fun row=>some { row with ow:=n })
   | none=>if k∈keys a.mv then some none else none:=by
 have WT:(keys a.sh).Nodup:=by
  simp only [List.nodup_cons,List.nodup_append] at ll; exact ll.2.2.1
 simp only [VI,iF,Ln,M3 WT hp,O6]
 by_cases h:r=k
 ·simp [h]
 ·simp only [h,if_false]
  cases hl:lk a.sh k with
  | none=>rfl
  | some n =>
   obtain ⟨row,hr⟩:=hp k n (cU hl)
   simp [hr]
theorem R8 (hR:Rel X S.lk γ w) (cz:∀ g,w.heap.size<=g->γ.O g=none) (hm:Le m S.lk) {r e c:Nat} {row:Row} {vl:List Cv} {a:I9} {y:El row.τ} {av v:Value} {t:TypeId}
  (hr:m.r r=some row) (ho:eG row.ow=true) (ha:m.bW e c vl=some a) (hlen:c+vl.length<=sz row.τ) (hy:sj row.τ (Soft.cY (row.cs e) c a.iJ)=some y)
  (xV:Di row.τ a.iJ=true) (ll:(r::(keys a.mv++keys a.sh)).Nodup) (hv:cj S.lk γ vl v.cells.toList) (QM:bu S.lk γ (.pe r e c) av) (hs:vl.length=gj X.P t) (hp:0<vl.length) :
  ∃ w' γ',(Instr.storeAt t av v).run X.P w= .ok () w'/\Step X S γ w (VI m r { row with xs:=row.xs.set e y,ow:=min row.ow a.lv } a) γ' w':=by
 obtain ⟨w',nE,tN,br,jg,F7,Aj,he⟩:=OH hR cz hm hr ho ha hlen hy xV ll hv QM hs hp
 have fU:=hm.r r row hr
 have Ke:∀ r k,(r,k)∈a.sh->∃ row,m.r r=some row:=fun r k h=>let ⟨row,h1,_⟩:=mE ha h; ⟨row,h1⟩
 have WT:(keys a.sh).Nodup:=by
  have:=ll; simp only [List.nodup_cons,List.nodup_append] at this; exact this.2.2.1
 have Lz:r∉keys a.mv/\r∉keys a.sh:=by
  have:=ll; simp only [List.nodup_cons,zH,not_or] at this; exact this.1
 have N0:∀ k,k∈keys a.mv->lk a.sh k=none:=by
  intro k hk
  rw [cL]; intro uZ
  have:=ll; simp only [List.nodup_cons,List.nodup_append] at this
  exact this.2.2.2 k hk k uZ rfl
 have hmn:(keys a.mv).Nodup:=by
  have:=ll; simp only [List.nodup_cons,List.nodup_append] at this; exact this.2.1
 let row':Row:={ row with xs:=row.xs.set e y,ow:=min row.ow a.lv }
 have cC:(S.app (VI m r row' a)).lk.r r=some row':=by rw [kT,yc ll Ke]; simp
 have F8:∀ k rk,k≠r->S.lk.r k=some rk->k∉keys a.mv->∃ rk',(S.app (VI m r row' a)).lk.r k=some rk'/\rk'.τ=rk.τ/\rk'.xs.length=rk.xs.length/\∀ e,rk'.cs e=rk.cs e:=by
  intro k rk cT hk F9
  rw [kT,yc ll Ke,if_neg (Ne.symm cT)]
  cases hl:lk a.sh k with
  | none=>simp only [F9,if_false]; exact ⟨rk,hk,rfl,rfl,fun _=>rfl⟩
  | some n =>
   obtain ⟨row2,h2⟩:=Ke k n (cU hl)
   have h3:=hm.r k row2 h2
   rw [hk] at h3; cases h3
   simp only [h2,Option.map_some]
   exact ⟨_,rfl,rfl,rfl,fun _=>rfl⟩
 have Q2:∀ k,lk (VI m r row' a).mv k=none->k∉keys a.mv:=by
  intro k h
  have h:lk (Vf r a.mv) k=none:=h
  rw [PB] at h
  rw [← cL]; cases h2:lk a.mv k with
  | none=>rfl
  | some p=>rw [h2] at h; cases h
 refine ⟨w',Rh γ r e c row vl a v.cells.toList,nE,mu hR rfl tN ?_ ?_ ?_ (fun k rk h h1=>by
  rw [yc ll Ke] at h
  by_cases lh:r=k
  ·rw [if_pos lh] at h; cases h; exact absurd h1 (ug (FH ho (qL ha)).2.1)
  ·rw [if_neg lh] at h
   cases hl:lk a.sh k with
   | none=>rw [hl] at h; simp only at h; split at h<;>cases h
   | some n =>
    rw [hl] at h; simp only at h
    obtain ⟨row2,h2,h3⟩:=mE ha (cU hl)
    rw [h2] at h; simp only [Option.map_some,zA] at h; subst h
    exfalso; rcases h3 with ⟨h3,_⟩ | ⟨h3,_⟩<;>rw [h3] at h1<;>cases h1) (fun _ _ _=>rfl)⟩
 ·refine Ol hR (fun k d e' c' rk h hk=> ?_) (fun k rk hk hn _=> ?_) (fun k rk rk' hk hn _ _ h=> ?_) (fun k hn _ _ Gb=>⟨fun rk rk' hk h=> ?_⟩) (fun k cs hk _=> ?_)
  ·have h:lk (Vf r a.mv) k=some (d,e',c'):=h
   rw [PB] at h
   cases hl:lk a.mv k with
   | none=>rw [hl] at h; cases h
   | some p =>
    obtain ⟨e1,c1⟩:=p
    rw [hl] at h; simp only [Option.map_some,zA,zG] at h
    obtain ⟨rfl,rfl,rfl⟩:=h
    obtain ⟨rk2,j,h1,rfl,rfl,h4,h5⟩:=BC ha (cU hl)
    have Iw:=hm.r k rk2 h1
    rw [hk] at Iw; cases Iw
    have NU:=m4 ha
    have N1:j<vl.length:=(zU.1 h4).1
    have Wc:(row.cs e1).length=sz row.τ:=bf _ _
    have nh:(γ.cv r).length=row.xs.length*sz row.τ:=(hR.rs r row fU).top.Aa.1
    have Wa:(e1+1)*sz row.τ<=row.xs.length*sz row.τ:=zP _ he
    rw [Nat.add_mul] at Wa
    obtain ⟨u,hu,hc⟩:=hv.get h4
    have hul:=hv.length
    refine ⟨row',cC,by simpa [row'] using he,?_,?_⟩
    ·show (({ row with xs:=row.xs.set e1 y,ow:=min row.ow a.lv }:Row).cs e1)[c+j]? =_
     rw [Aj,dK _ _ _ _ (by omega) (by omega)]; exact h5
    ·show (eA γ.cv r (Soft.cY (γ.cv r) (e1*sz row.τ+c) v.cells.toList) r)[e1*sz row.τ+(c+j)]? =_
     simp only [eA,if_true]
     rw [show e1*sz row.τ+(c+j)=e1*sz row.τ+c+j by omega,dK _ _ _ _ (by omega) (by rw [nh]; omega),hu,hc.2]
  ·refine ⟨?_,rfl⟩
   by_cases lh:k=r
   ·subst lh; exact ⟨_,cC⟩
   ·obtain ⟨rk',h1,_⟩:=F8 k rk lh hk (Q2 k hn); exact ⟨rk',h1⟩
  ·by_cases lh:k=r
   ·subst lh
    rw [cC] at h; cases h
    rw [fU] at hk; cases hk
    exact ⟨rfl,by simp [row']⟩
   ·obtain ⟨rk2,h1,h2,h4,_⟩:=F8 k rk lh hk (Q2 k hn)
    rw [h] at h1; cases h1
    exact ⟨h2,by omega⟩
  ·have lh:k≠r:=Kt.1 Gb
   obtain ⟨rk2,h1,h2,h4,h5⟩:=F8 k rk lh hk (Q2 k hn)
   rw [h] at h1; cases h1
   intro e1 c1 τ ys _ hc
   exact ⟨⟨ys,by rw [h5]; exact hc,Nat.le_refl _⟩,by simp [Rh,eA,lh]⟩
  ·rw [o8]; exact ⟨⟨_,by simp [VI,Dl.z,fx,hk]; rfl⟩,rfl⟩
 ·intro k rk h
  rw [yc ll Ke] at h
  by_cases lh:r=k
  ·subst lh
   rw [if_pos rfl] at h; cases h
   simpa [Rh,eA] using br
  ·rw [if_neg lh] at h
   cases hl:lk a.sh k with
   | none =>
    rw [hl] at h; simp only at h
    split at h<;>cases h
   | some n =>
    rw [hl] at h; simp only at h
    obtain ⟨row2,h2,h3⟩:=mE ha (cU hl)
    rw [h2] at h; simp only [Option.map_some,zA] at h; subst h
    have:=(qX r e c row vl a).shared (w:=w) (w':=w') (γ:=γ) ll (nb:=none) (by simp) cz jg (hR.rs k row2 (hm.r k row2 h2)) (cU hl) h3
    have cT:k≠r:=Ne.symm lh
    simpa [Rh,eA,cT] using this
 ·intro k rk h hk WO
  rw [yc ll Ke] at h
  rcases WO with h1 | h1 | h1
  ·have h1:k=r:=h1
   rw [if_pos h1.symm] at h; cases h
  ·have h1:k∈keys a.mv:=h1
   by_cases lh:r=k
   ·rw [if_pos lh] at h; cases h
   ·rw [if_neg lh,N0 k h1] at h; simp [h1] at h
  ·have h1:k∈keys a.sh:=h1
   by_cases lh:r=k
   ·rw [if_pos lh] at h; cases h
   ·rw [if_neg lh] at h
    cases hl:lk a.sh k with
    | none=>exact absurd h1 (cL.1 hl)
    | some n =>
     obtain ⟨row2,h2⟩:=Ke k n (cU hl)
     rw [hl] at h; simp [h2] at h
theorem He {τ:Ty} (x y:El τ) {c:Nat} {σ:Ty} {ys:List (El σ)} (h:(cells τ x)[c]? =some (.l σ ys)):∃ ys':List (El σ),(cells τ y)[c]? =some (.l σ ys'):=by
 have key:∀ (l l':List Ct),l.length=l'.length->(∀ (i:Nat) (a b:Ct),l[i]? =some a->l'[i]? =some b->∀ (σ:Ty) (ys:List (El σ)),a=Ct.l σ ys->∃ zs:List (El σ),b=Ct.l σ zs) ->
   l[c]? =some (.l σ ys)->∃ ys':List (El σ),l'[c]? =some (.l σ ys'):=by
  intro l l' hl hk hc
  have fW:c<l'.length:=by have:=(zU.1 hc).1; omega
  have hb:l'[c]? =some l'[c]:=List.getElem?_eq_getElem fW
  obtain ⟨zs,hz⟩:=hk c _ _ hc hb σ ys rfl
  exact ⟨zs,by rw [hb,hz]⟩
 refine key _ _ (by rw [bf,bf]) ?_ h
 intro i a b ha hb σ ys e
 subst e
 cases τ<;>simp only [cells] at ha hb <;>
  (repeat (rcases i with _ | i<;>first
   | (simp only [List.getElem?_cons_zero,zA,reduceCtorEq] at ha; done)
   | (simp only [List.getElem?_cons_zero,zA] at ha hb; cases ha; subst hb; exact ⟨_,rfl⟩)
   | (simp only [List.getElem?_cons_succ,List.getElem?_nil,reduceCtorEq] at ha; done)
   | simp only [List.getElem?_cons_succ] at ha hb))
theorem yZ:∀ {vl:List Cv} {e c:Nat} {a:I9},j7 vl=true->m.bW e c vl=some a->a.mv=[]/\a.sh=[]/\a.lv=5/\∀ (j:Nat) (σ:Ty) (ys:List (El σ)),a.iJ[j]? ≠some (.l σ ys)
 | [],e,c,a,_,h=>by simp only [Lk.bW,zA] at h; subst h; simp
 | x::vl,e,c,a,hf,h=>by
  have hx:∃ ct,m.eR x=some ⟨ct,none,none,5⟩/\(∀ (σ:Ty) (ys:List (El σ)),ct≠ .l σ ys)/\j7 vl=true:=by
   cases x<;>simp only [j7] at hf<;>first | (cases hf; done) | exact ⟨_,rfl,by simp,hf⟩
  obtain ⟨ct,h1,dk,hf⟩:=hx
  simp only [Lk.bW,h1] at h
  cases h2:m.bW e (c+1) vl with
  | none=>simp [h2] at h
  | some a2 =>
   simp only [h2,zA] at h; subst h
   obtain ⟨i1,i2,i3,i4⟩:=yZ hf h2
   refine ⟨i1,i2,by simp [i3],fun j σ ys=> ?_⟩
   cases j with
   | zero=>simp; exact dk σ ys
   | succ j=>simpa using i4 j σ ys
def Ye (r:Nat) (row':Row):Dl:={ Dl.z with rs:=[(r,some row')] }
theorem LY (S:St) (r:Nat) (row':Row) (k:Nat):(S.app (Ye r row')).lk.r k=if r=k then some row' else S.lk.r k:=by
 rw [kT]
 show (match (if r=k then some (some row') else none) with | some r=>r | none=>_)=_
 by_cases h:r=k<;>simp [h]
theorem Xx (S:St) (r:Nat) (row':Row) (k:Nat):(S.app (Ye r row')).lk.v k=(S.lk.v k).map (List.map (Ye r row').map):=by rw [o8]; rfl
theorem Sp (hR:Rel X S.lk γ w) (cz:∀ g,w.heap.size<=g->γ.O g=none) (hm:Le m S.lk) {r e c:Nat} {row:Row} {vl:List Cv} {a:I9} {y:El row.τ} {av v:Value} {t:TypeId}
  (hr:m.r r=some row) (ho:eG row.ow=true) (AJ:j7 vl=true) (ha:m.bW e c vl=some a) (hlen:c+vl.length<=sz row.τ) (hy:sj row.τ (Soft.cY (row.cs e) c a.iJ)=some y)
  (xV:Di row.τ a.iJ=true) (hv:cj S.lk γ vl v.cells.toList) (QM:bu S.lk γ (.pe r e c) av) (hs:vl.length=gj X.P t) (hp:0<vl.length) :
  ∃ w' γ',(Instr.storeAt t av v).run X.P w= .ok () w'/\Step X S γ w (Ye r { row with xs:=row.xs.set e y }) γ' w':=by
 obtain ⟨fmv,fsh,flv,fct⟩:=yZ AJ ha
 have ll:(qX r e c row vl a).apart:=by simp [Ro.apart,qX,fmv,fsh,keys]
 obtain ⟨w',nE,tN,br,jg,F7,Aj,he⟩:=OH hR cz hm hr ho ha hlen hy xV ll hv QM hs hp
 have fU:=hm.r r row hr
 have ad3:min row.ow a.lv=row.ow:=by rw [flv]; rcases oK ho with h | h | h<;>rw [h]<;>rfl
 rw [ad3] at br F7 Aj
 have hR':∀ k,(qX r e c row vl a).R k↔k=r:=by intro k; simp [Ro.R,qX,fmv,fsh,keys]
 have hul:=hv.length
 have NU:=m4 ha
 have Wc:(row.cs e).length=sz row.τ:=bf _ _
 have nh:(γ.cv r).length=row.xs.length*sz row.τ:=(hR.rs r row fU).top.Aa.1
 have Wa:(e+1)*sz row.τ<=row.xs.length*sz row.τ:=zP _ he
 rw [Nat.add_mul] at Wa
 refine ⟨w',Rh γ r e c row vl a v.cells.toList,nE,mu hR rfl tN ?_ ?_ ?_ (IS (ug ho)) (fun _ _ _=>rfl)⟩
 ·refine mL hR rfl (fun k rk hk _=>⟨?_,rfl⟩) (fun k rk rk' hk _ _ h=> ?_) (fun k _ _ _=>⟨fun rk rk' hk h=> ?_⟩) (fun k cs hk _=>⟨⟨_,by rw [Xx,hk]; rfl⟩,rfl⟩)
  ·rw [LY]; by_cases h:r=k
   ·exact ⟨_,if_pos h⟩
   ·exact ⟨rk,by rw [if_neg h]; exact hk⟩
  ·rw [LY] at h
   by_cases so:r=k
   ·subst so; rw [if_pos rfl] at h; cases h
    rw [fU] at hk; cases hk
    exact ⟨rfl,by simp⟩
   ·rw [if_neg so,hk] at h; cases h; exact ⟨rfl,Nat.le_refl _⟩
  ·rw [LY] at h
   by_cases so:r=k
   ·subst so; rw [if_pos rfl] at h; cases h
    rw [fU] at hk; cases hk
    intro e1 c1 τ ys he1 hc
    have cb:c1<sz row.τ:=by have:=(zU.1 hc).1; rw [vY,bf] at this; exact this
    have TK:(Rh γ r e c row vl a v.cells.toList).cv r=Soft.cY (γ.cv r) (e*sz row.τ+c) v.cells.toList:=by simp [Rh,eA]
    rw [TK]
    by_cases Kc:e1=e
    ·subst Kc
     have wj:c1<c\/c+vl.length<=c1:=by
      rcases Nat.lt_or_ge c1 c with h | h
      ·exact .inl h
      ·rcases Nat.lt_or_ge c1 (c+vl.length) with h2 | h2
       ·exfalso
        obtain ⟨j,rfl⟩:∃ j,c1=c+j:=⟨c1-c,by omega⟩
        obtain ⟨ys',NA⟩:=He _ y hc
        have h3:=Aj
        simp only [Row.cs] at h3
        rw [show (row.xs.set e1 y).getD e1 (cy row.τ)=y by simp [List.getD,he]] at h3
        rw [h3,dK _ _ _ _ (by omega) (by rw [bf]; omega)] at NA
        exact fct j τ ys' NA
       ·exact .inr h2
     rw [Aj]
     refine ⟨⟨ys,?_,Nat.le_refl _⟩,?_⟩
     ·rcases wj with h | h
      ·rw [c8 _ _ _ _ h (by omega)]; exact hc
      ·rw [cZ _ _ _ _ (by omega) (by omega)]; exact hc
     ·rcases wj with h | h
      ·rw [c8 _ _ _ _ (by omega) (by rw [nh]; omega)]
      ·rw [cZ _ _ _ _ (by omega) (by rw [nh]; omega)]
    ·rw [F7 e1 Kc]
     refine ⟨⟨ys,hc,Nat.le_refl _⟩,?_⟩
     rcases Nat.lt_or_gt_of_ne Kc with h | h
     ·have h3:(e1+1)*sz row.τ<=e*sz row.τ:=zP _ h
      rw [Nat.add_mul] at h3
      rw [c8 _ _ _ _ (by omega) (by rw [nh]; omega)]
     ·have h3:(e+1)*sz row.τ<=e1*sz row.τ:=zP _ h
      rw [Nat.add_mul] at h3
      rw [cZ _ _ _ _ (by omega) (by rw [nh]; omega)]
   ·rw [if_neg so,hk] at h; cases h
    intro e1 c1 τ ys _ hc
    exact ⟨⟨ys,hc,Nat.le_refl _⟩,by simp [Rh,eA,Ne.symm so]⟩
 ·intro k rk h
  have h:(if r=k then some (some _) else none)=some (some rk):=h
  by_cases hk:r=k
  ·subst hk; rw [if_pos rfl] at h; cases h
   simpa [Rh,eA] using br
  ·rw [if_neg hk] at h; cases h
 ·intro k rk h _ WO
  have h:(if r=k then some (some _) else none)=none:=h
  rw [(hR' k).1 WO] at h
  simp at h
theorem o4 {τ:Ty} (ys:List (El τ)) {k d:Nat} (hk:k<ys.length) (hd:d<sz τ):(gu τ ys)[k*sz τ+d]? =((cells τ (ys.getD k (cy τ)))[d]?).map gJ :=
 fF τ ys k d hk hd
theorem IQ {τ:Ty} (ys:List (El τ)) {k d:Nat} {y:El τ} {iJ:List Ct} (hk:k<ys.length) (hd:d+iJ.length<=sz τ) (hy:cells τ y=Soft.cY (cells τ (ys.getD k (cy τ))) d iJ) :
  gu τ (ys.set k y)=Soft.cY (gu τ ys) (k*sz τ+d) (iJ.map gJ):=by
 have hz:=o6 τ
 have hkz:(k+1)*sz τ<=ys.length*sz τ:=zP _ hk
 rw [Nat.add_mul] at hkz
 have AJ:=mM τ ys
 have agy:(gu τ (ys.set k y)).length=ys.length*sz τ:=by rw [mM]; simp
 have NU:(cells τ (ys.getD k (cy τ))).length=sz τ:=bf _ _
 apply List.ext_getElem?
 intro i
 by_cases hi:i<ys.length*sz τ
 ·have he:i/sz τ<ys.length:=Nat.div_lt_of_lt_mul (by rwa [Nat.mul_comm])
  have hc:i % sz τ<sz τ:=Nat.mod_lt _ hz
  have Wy:i/sz τ*sz τ+i % sz τ=i:=by rw [Nat.mul_comm]; exact Nat.div_add_mod i (sz τ)
  revert he hc Wy
  generalize i/sz τ=e
  generalize i % sz τ=c
  intro he hc Wy
  subst Wy
  rw [o4 _ (by simpa using he) hc]
  by_cases hek:e=k
  ·subst hek
   rw [show (ys.set e y).getD e (cy τ)=y by simp [List.getD,he],hy]
   by_cases h1:c<d
   ·rw [c8 _ _ _ _ h1 (by omega),c8 _ _ _ _ (by omega) (by rw [AJ]; omega),o4 _ he hc]
   ·by_cases h2:c<d+iJ.length
    ·obtain ⟨j,rfl⟩:∃ j,c=d+j:=⟨c-d,by omega⟩
     rw [dK _ _ _ _ (by omega) (by omega),show e*sz τ+(d+j)=e*sz τ+d+j by omega,dK _ _ _ _ (by simp; omega) (by rw [AJ]; simp; omega),List.getElem?_map]
    ·rw [cZ _ _ _ _ (by omega) (by omega),cZ _ _ _ _ (by simp; omega) (by rw [AJ]; simp; omega),o4 _ he hc]
  ·rw [show (ys.set k y).getD e (cy τ)=ys.getD e (cy τ) by simp [List.getD,List.getElem?_set,Ne.symm hek]]
   rcases Nat.lt_or_gt_of_ne hek with h | h
   ·have h3:(e+1)*sz τ<=k*sz τ:=zP _ h
    rw [Nat.add_mul] at h3
    rw [c8 _ _ _ _ (by omega) (by rw [AJ]; omega),o4 _ he hc]
   ·have h3:(k+1)*sz τ<=e*sz τ:=zP _ h
    rw [Nat.add_mul] at h3
    rw [cZ _ _ _ _ (by simp; omega) (by rw [AJ]; simp; omega),o4 _ he hc]
 ·rw [List.getElem?_eq_none (by omega),List.getElem?_eq_none]
  rw [im _ _ _ (by rw [AJ]; simp; omega)]; omega
theorem HR (m:Lk):∀ {vl:List Cv} {us:List Value} {iJ:List Ct},j7 vl=true->cj M γ vl us->m.iJ vl=some iJ->us=iJ.map gJ/\iJ.length=vl.length
 | [],us,iJ,_,hr,h=>by cases hr; simp only [Lk.iJ,zA] at h; subst h; simp
 | x::vl,us,iJ,hf,hr,h=>by
  cases hr with
  | cons hx hl =>
   rename_i v us
   have:∃ ct,m.ct x=some ct/\v=gJ ct/\j7 vl=true:=by
    cases x<;>simp only [j7] at hf<;>first | (cases hf; done) | exact ⟨_,rfl,hx,hf⟩
   obtain ⟨ct,h1,rfl,hf⟩:=this
   simp only [Lk.iJ,h1] at h
   cases h2:m.iJ vl with
   | none=>simp [h2] at h
   | some c2 =>
    simp only [h2,zA] at h; subst h
    obtain ⟨i1,i2⟩:=HR m hf hl h2
    simp [i1,i2]
theorem Sn (hR:Rel X S.lk γ w) (cz:∀ g,w.heap.size<=g->γ.O g=none) (hm:Le m S.lk) {r e c k d:Nat} {row:Row} {vl:List Cv} {iJ:List Ct} {τ:Ty} {ys:List (El τ)} {y:El τ} {z:El row.τ} {av v:Value} {t:TypeId}
  (hr:m.r r=some row) (ho:row.ow=5) (AJ:j7 vl=true) (NB:m.iJ vl=some iJ) (hc:(row.cs e)[c]? =some (.l τ ys)) (hd:d+vl.length<=sz τ)
  (hy:sj τ (Soft.cY (cells τ (ys.getD k (cy τ))) d iJ)=some y) (hz:sj row.τ (Soft.cY (row.cs e) c [.l τ (ys.set k y)])=some z) (xV:Di τ iJ=true)
  (hv:cj S.lk γ vl v.cells.toList) (QM:bu S.lk γ (.pn r e c k d) av) (hs:vl.length=gj X.P t) (hp:0<vl.length) :
  ∃ w',(Instr.storeAt t av v).run X.P w= .ok () w'/\Step X S γ w (Ye r { row with xs:=row.xs.set e z }) γ w':=by
 have fU:=hm.r r row hr
 obtain ⟨row',τ',ys',u,cC,he,lS,hu,hk,g,o,n',cap,hb,rfl⟩:=QM
 rw [fU] at cC; cases cC
 rw [hc] at lS; cases lS
 have br:=hR.rs r row fU
 obtain ⟨u',pg,Y1,qe⟩:=br.rU e c _ he hc
 rw [hu] at pg; cases pg
 have ZZ:∀ e c,dY r e c row.ow= .own (.n r e c):=by intro e c; rw [ho]; rfl
 have ht5:dU r row.ow= .own (.r r):=by rw [ho]; rfl
 rw [ZZ] at qe
 obtain ⟨gV,pc⟩:=qe
 obtain ⟨TI,Ug⟩:=HR m AJ hv NB
 rcases gV.2 with ⟨h1,_⟩ | ⟨g1,cap1,cur,h1,_,hg,Iv,Rl,je,ht⟩
 ·rw [h1] at hb; cases hb
 have Nw:g1=g/\0=o:=by
  rw [h1] at hb; injection hb with h _ _; injection h with h; injection h with h2 h3 _; exact ⟨h2,h3⟩
 obtain ⟨rfl,rfl⟩:=Nw
 have Qc:γ.O g1=some (.n r e c):=pc g1 (by rw [h1]; rfl)
 have Nq:=hv.length
 have hkz:(k+1)*sz τ<=ys.length*sz τ:=zP _ hk
 rw [Nat.add_mul] at hkz
 have Xn:ys.length*sz τ<=cur.size:=by rw [je]; exact zP _ Iv
 have nE:=yH (X:=X) (t:=t) (v:=v) (o:=0+(k*sz τ+d)) hg (by simp at Nq; omega) (by simp at Nq; omega) (by simp at Nq; omega) (hv.one hR)
 have Xa:cells τ y=Soft.cY (cells τ (ys.getD k (cy τ))) d iJ:=rh hy (fun NJ=>by
  have ib:τ= .byte:=by revert NJ; cases τ<;>simp [Ty.isByte]
  have h2:sz τ=1:=by rw [ib]; rfl
  have h3:(cells τ (ys.getD k (cy τ))).length=1:=by rw [bf,h2]
  have h5:d=0:=by omega
  subst h5
  have h6:vl.length=1:=by omega
  have:Soft.cY (cells τ (ys.getD k (cy τ))) 0 iJ=iJ:=by
   simp only [Soft.cY,Ug,h6,List.take_zero,List.nil_append,Nat.zero_add]
   rw [List.drop_of_length_le (by omega),List.append_nil]
  rw [this]; exact xV)
 have adI:cells row.τ z=Soft.cY (row.cs e) c [.l τ (ys.set k y)]:=rh hz (fun NJ=>by
  exfalso
  have ib:row.τ.deep=false:=by revert NJ; cases row.τ<;>simp [Ty.isByte,Ty.deep]
  exact absurd rfl (oV ib _ _ (List.mem_of_getElem? hc) τ ys))
 have Wc:(row.cs e).length=sz row.τ:=bf _ _
 have Dx:c<(row.cs e).length:=(zU.1 hc).1
 let row':Row:={ row with xs:=row.xs.set e z }
 have Aj:row'.cs e=Soft.cY (row.cs e) c [.l τ (ys.set k y)]:=by
  show cells row.τ ((row.xs.set e z).getD e (cy row.τ))=_
  rw [show (row.xs.set e z).getD e (cy row.τ)=z by simp [List.getD,he]]
  exact adI
 have F7:∀ e':Nat,e'≠e->row'.cs e'=row.cs e':=by
  intro e' cT
  show cells row.τ ((row.xs.set e z).getD e' (cy row.τ))=cells row.τ (row.xs.getD e' (cy row.τ))
  rw [show (row.xs.set e z).getD e' (cy row.τ)=row.xs.getD e' (cy row.τ) by simp [List.getD,List.getElem?_set,Ne.symm cT]]
 have ad8:∀ e' c' ct,(row'.cs e')[c']? =some ct->(e'=e/\c'=c/\ct= .l τ (ys.set k y))\/(¬ (e'=e/\c'=c)/\(row.cs e')[c']? =some ct):=by
  intro e' c' ct h
  by_cases Kc:e'=e
  ·subst Kc
   rw [Aj] at h
   rcases Nat.lt_trichotomy c' c with h1 | h1 | h1
   ·rw [c8 _ _ _ _ h1 (by omega)] at h; exact .inr ⟨by omega,h⟩
   ·subst h1
    have:=dK (row.cs e') [Ct.l τ (ys.set k y)] c' 0 (by simp) (by simp; omega)
    rw [Nat.add_zero] at this
    rw [this] at h; simp at h; exact .inl ⟨rfl,rfl,h.symm⟩
   ·rw [cZ _ _ _ _ (by simp; omega) (by simp; omega)] at h; exact .inr ⟨by omega,h⟩
  ·rw [F7 e' Kc] at h; exact .inr ⟨fun h=>Kc h.1,h⟩
 have jg:∀ g,g≠g1->(w.setRow g1 (Soft.cY cur.toList (0+(k*sz τ+d)) v.cells.toList).toArray).heap[g]? =w.heap[g]? :=fun g h=>mj w _ _ g h
 refine ⟨_,nE,?_⟩
 have tN:Kn (·=r) γ w γ (w.setRow g1 (Soft.cY cur.toList (0+(k*sz τ+d)) v.cells.toList).toArray) :=
  ⟨rfl,rfl,rfl,by simp,fun g sB cT=>⟨jg g (fun h=>by have:=(cT r rfl).2 e c; rw [h,Qc] at this; exact this rfl),rfl⟩,fun g sB=>cz g (by simpa using sB),rfl,fun _ _=>⟨rfl,rfl⟩⟩
 have TD:cX X γ.O (w.setRow g1 (Soft.cY cur.toList (0+(k*sz τ+d)) v.cells.toList).toArray) r row' (γ.rv r) (γ.cv r):=by
  have C5:=br.top
  refine ⟨?_,fun e' c' ct UU dk=> ?_⟩
  ·show Sl X γ.O _ (dU r row.ow) row.τ _ (row.xs.set e z).length _
   rw [List.length_set]
   refine C5.re (fun g o sB hi=> ?_) id
   rw [ht5] at hi
   have hi:γ.O g=some (.r r):=hi
   exact ⟨(jg g (fun h=>by rw [h,Qc] at hi; cases hi)).trans sB,by rw [ht5]; exact hi⟩
  ·have Tp:e'<row.xs.length:=by simpa [row'] using UU
   show ∃ u,(γ.cv r)[e'*sz row.τ+c']? =some u/\gm X γ.O _ (dY r e' c' row.ow) ct u
   rcases ad8 e' c' ct dk with ⟨rfl,rfl,rfl⟩ | ⟨cT,Qg⟩
   ·refine ⟨u,hu,Y1,?_⟩
    rw [ZZ]
    refine ⟨⟨by rw [mM],.inr ⟨g1,cap1,_,by rw [h1]; simp,Nat.zero_le _,tg w _ _ _ _ _ hg,by simpa using Iv,Rl,?_,?_⟩⟩,pc⟩
    ·rw [List.size_toArray,im _ _ _ (by simp only [Array.length_toList] at Nq ⊢; omega),Array.length_toList,je]
    ·rw [List.length_set,List.toList_toArray,uf _ _ _ _ (by omega) (by simpa using Xn),ht,IQ ys hk (by omega) Xa,Nat.zero_add,TI]
   ·obtain ⟨u2,hu2,eO⟩:=br.rU e' c' ct Tp Qg
    refine ⟨u2,hu2,eO.re (fun g o sB hi=> ?_) id⟩
    rw [ZZ] at hi
    have hi:γ.O g=some (.n r e' c'):=hi
    exact ⟨(jg g (fun h=>by rw [h,Qc] at hi; simp at hi; exact cT ⟨hi.1.symm,hi.2.symm⟩)).trans sB,by rw [ZZ]; exact hi⟩
 refine mu hR rfl tN ?_ ?_ ?_ (IS (by show row.ow≠1; rw [ho]; decide)) (fun _ _ _=>rfl)
 ·refine mL hR rfl (fun j rk hj _=>⟨?_,rfl⟩) (fun j rk rk' hj _ _ h=> ?_) (fun j _ _ _=>⟨fun rk rk' hj h=> ?_⟩) (fun j cs hj _=>⟨⟨_,by rw [Xx,hj]; rfl⟩,rfl⟩)
  ·rw [LY]; by_cases h:r=j
   ·exact ⟨_,if_pos h⟩
   ·exact ⟨rk,by rw [if_neg h]; exact hj⟩
  ·rw [LY] at h
   by_cases so:r=j
   ·subst so; rw [if_pos rfl] at h; cases h
    rw [fU] at hj; cases hj
    exact ⟨rfl,by simp⟩
   ·rw [if_neg so,hj] at h; cases h; exact ⟨rfl,Nat.le_refl _⟩
  ·rw [LY] at h
   by_cases so:r=j
   ·subst so; rw [if_pos rfl] at h; cases h
    rw [fU] at hj; cases hj
    intro e1 c1 σ zs he1 cb
    refine ⟨?_,rfl⟩
    by_cases J6:e1=e/\c1=c
    ·obtain ⟨rfl,rfl⟩:=J6
     rw [hc] at cb; cases cb
     refine ⟨ys.set k y,?_,by simp⟩
     show (row'.cs e1)[c1]? =_
     rw [Aj]
     have:=dK (row.cs e1) [Ct.l τ (ys.set k y)] c1 0 (by simp) (by simp; omega)
     rw [Nat.add_zero] at this
     rw [this]; rfl
    ·refine ⟨zs,?_,Nat.le_refl _⟩
     show (row'.cs e1)[c1]? =_
     by_cases Kc:e1=e
     ·subst Kc
      rw [Aj]
      rcases Nat.lt_trichotomy c1 c with h1 | h1 | h1
      ·rw [c8 _ _ _ _ h1 (by omega)]; exact cb
      ·exact absurd ⟨rfl,h1⟩ J6
      ·rw [cZ _ _ _ _ (by simp; omega) (by simp; omega)]; exact cb
     ·rw [F7 e1 Kc]; exact cb
   ·rw [if_neg so,hj] at h; cases h
    intro e1 c1 σ zs _ cb
    exact ⟨⟨zs,cb,Nat.le_refl _⟩,rfl⟩
 ·intro j rk h
  have h:(if r=j then some (some row') else none)=some (some rk):=h
  by_cases hj:r=j
  ·subst hj; rw [if_pos rfl] at h; cases h; exact TD
  ·rw [if_neg hj] at h; cases h
 ·intro j rk h _ hj
  have h:(if r=j then some (some row') else none)=none:=h
  rw [if_pos hj.symm] at h; cases h
def pL {τ:Ty} (xs:List (El τ)) (off len:Nat):List (El τ):=xs.take off++(List.replicate len (cy τ)++xs.drop (off+len))
theorem wg {τ:Ty} (xs:List (El τ)) {off len:Nat} (h:off+len<=xs.length):(pL xs off len).length=xs.length:=by simp [pL]; omega
theorem Pp {τ:Ty} (xs:List (El τ)) {off len:Nat} (h:off+len<=xs.length) (e:Nat) :
  (pL xs off len).getD e (cy τ)=if off<=e/\e<off+len then cy τ else xs.getD e (cy τ):=by
 simp only [pL,List.getD,List.getElem?_append,List.length_take,List.length_replicate,List.getElem?_take,List.getElem?_replicate,List.getElem?_drop]
 have h1:min off xs.length=off:=by omega
 rw [h1]
 by_cases h2:e<off
 ·simp [h2,show ¬ (off<=e/\e<off+len) by omega]
 ·by_cases h3:e<off+len
  ·simp [h2,show e-off<len by omega,show off<=e/\e<off+len by omega]
  ·simp [h2,show ¬ e-off<len by omega,show ¬ (off<=e/\e<off+len) by omega,show off+len+(e-off-len)=e by omega]
theorem xN (z:Array Value) (n:Nat):Builtin.zeroCells z n=madeCells z (n*z.size):=rfl
def TT (r:Nat) (row':Row):Dl:={ Dl.z with kn:=[r],rs:=[(r,some row')] }
theorem Vh (S:St) (r:Nat) (row':Row) (k:Nat):(S.app (TT r row')).lk.r k=if r=k then some row' else S.lk.r k:=by
 rw [kT]
 show (match (if r=k then some (some row') else none) with | some r=>r | none=>_)=_
 by_cases h:r=k<;>simp [h]
theorem abA (S:St) (r:Nat) (row':Row) (k:Nat):(S.app (TT r row')).lk.v k=(S.lk.v k).map (List.map (TT r row').map):=by rw [o8]; rfl
theorem wQ (hR:Rel X S.lk γ w) {r:Nat} {row row':Row} (hr:S.lk.r r=some row) (hτ:row'.τ=row.τ) (hl:row.xs.length<=row'.xs.length) (vy:row'.ow≠1) {cv':List Value} {O':OM}
  (tN:Kn (·=r) γ w { γ with O:=O',cv:=eA γ.cv r cv' } w') (br:cX X O' w' r row' (γ.rv r) cv'):Step X S γ w (TT r row') { γ with O:=O',cv:=eA γ.cv r cv' } w':=by
 refine mu hR rfl tN ?_ ?_ ?_ (IS vy) (fun _ _ _=>rfl)
 ·refine mL hR rfl (fun j rk hj _=>⟨?_,rfl⟩) (fun j rk rk' hj _ _ h=> ?_) (fun j _ _ Lw=>⟨fun rk rk' hj h=> ?_⟩) (fun j cs hj _=>⟨⟨_,by rw [abA,hj]; rfl⟩,rfl⟩)
  ·rw [Vh]; by_cases h:r=j
   ·exact ⟨_,if_pos h⟩
   ·exact ⟨rk,by rw [if_neg h]; exact hj⟩
  ·rw [Vh] at h
   by_cases so:r=j
   ·subst so; rw [if_pos rfl] at h; cases h
    rw [hr] at hj; cases hj
    exact ⟨hτ,hl⟩
   ·rw [if_neg so,hj] at h; cases h; exact ⟨rfl,Nat.le_refl _⟩
  ·have so:¬ r=j:=Ne.symm (Kt.1 Lw)
   rw [Vh,if_neg so,hj] at h; cases h
   intro e1 c1 σ zs _ cb
   exact ⟨⟨zs,cb,Nat.le_refl _⟩,by simp [eA,Ne.symm so]⟩
 ·intro j rk h
  have h:(if r=j then some (some row') else none)=some (some rk):=h
  by_cases hj:r=j
  ·subst hj; rw [if_pos rfl] at h; cases h; simpa [eA] using br
  ·rw [if_neg hj] at h; cases h
 ·intro j rk h _ hj
  have h:(if r=j then some (some row') else none)=none:=h
  rw [if_pos hj.symm] at h; cases h
theorem Mk {P:Program} {t e:TypeId} {i:TypeInfo} {z:Value} (hu:P.underlying t=some (.slice e)) (hi:P.info? e=some i) (hz:i.zero=some z) {g o n cap:Nat} {cur:Array Value} {e':TypeId}
  (hg:w.heap[g]? =some (.cells cur e' (0,0))) (hle:o+n*z.cells.size<=cur.size) (h1:∀ u∈(madeCells z.cells (n*z.cells.size)).toList,u.oneCell'=true) (hn:0<n) (ty:TypeId) :
  (Builtin.clear_ #[t] ty #[.slice (some ⟨g,o,none⟩) n cap]).run P w= .ok (.tuple #[]) (w.setRow g (Soft.cY cur.toList o (madeCells z.cells (n*z.cells.size)).toList).toArray):=by
 have qd:=run_storeCells_at (P:=P) g o e' (madeCells z.cells (n*z.cells.size)).toList 0 cur w hg (by simp [size_madeCells]; omega) h1
 rw [Nat.add_zero] at qd
 cases n with
 | zero=>omega
 | succ n =>
  simp only [Builtin.clear_,Sem.run_bind,run_underlying hu,Result.andThen_ok,zeroValue,G0 hi,hz,Sem.run_pure,xN,qd]
  simp [Soft.cY,run_underlying hu,zeroValue,G0 hi,hz,xN,qd]
theorem Og {τ:Ty}:∀ u∈(cells τ (cy τ)).map gJ,u.oneCell'=true:=by
 intro u hu
 obtain ⟨ct,_,rfl⟩:=List.mem_map.1 hu
 cases ct<;>rfl
theorem Jp (hX:iH X) (hR:Rel X S.lk γ w) (cz:∀ g,w.heap.size<=g->γ.O g=none) (hm:Le m S.lk) {t:TypeId} {r off len:Nat} {xv:Value} {v:AV} {δ:Dl} (hx:bu S.lk γ (.sl r off len) xv)
  (h:X.sG m t (.c (.sl r off len))= .w0 v δ) (ty:TypeId) :
  v=u8/\∃ w' γ',(Builtin.clear_ #[t] ty #[xv]).run X.P w= .ok (.tuple #[]) w'/\Step X S γ w δ γ' w':=by
 simp only [Ctx.sG] at h
 cases ht:X.lT t with
 | none=>simp [ht] at h
 | some τ =>
  cases hr:m.r r with
  | none=>simp [ht,hr] at h
  | some row =>
   simp only [ht,hr] at h
   have fU:=hm.r r row hr
   cases h1:eG row.ow&&MR row.τ τ with
   | false=>simp [h1] at h
   | true =>
    cases h2:row.τ.deep&&Nat.beq row.ow 5 with
    | true=>simp [h1,h2] at h
    | false =>
     simp only [h1,h2,Out.w0.injEq] at h
     obtain ⟨rfl,rfl⟩:=h
     simp only [zB] at h1
     obtain ⟨ho,hτ⟩:=h1
     have hτ:=Cm hτ
     subst hτ
     refine ⟨rfl,?_⟩
     obtain ⟨hu,AF⟩:=ou ht
     obtain ⟨i,z,hi,hz,hs,hb,hc,J9⟩:=tf hX ht
     obtain ⟨row',cC,hle,sr⟩:=hx
     rw [fU] at cC; cases cC
     have br:=hR.rs r row fU
     have C0:dU r row.ow= .own (.r r):=by simp [dU,ho]
     have AJ:row.ow=5->row.τ.deep=false:=by
      intro h5; rw [h5] at h2; cases hd:row.τ.deep with
      | false=>rfl
      | true=>rw [hd] at h2; cases h2
     show ∃ w' γ',_/\Step X S γ w (TT r { row with xs:=pL row.xs off len }) γ' w'
     have same:∀ (cv':List Value) (O':OM) (w':World),Kn (·=r) γ w { γ with O:=O',cv:=eA γ.cv r cv' } w'->cX X O' w' r { row with xs:=pL row.xs off len } (γ.rv r) cv' ->
       Step X S γ w (TT r { row with xs:=pL row.xs off len }) { γ with O:=O',cv:=eA γ.cv r cv' } w':=fun cv' O' w' tN rT =>
      wQ (row':={ row with xs:=pL row.xs off len }) hR fU rfl (by show row.xs.length<=(pL row.xs off len).length; rw [wg _ hle]; exact Nat.le_refl _) (ug ho) tN rT
     by_cases hlen:len=0
     ·subst hlen
      have ade:pL row.xs off 0=row.xs:=by simp [pL]
      refine ⟨w,_,?_,same (γ.cv r) γ.O w ⟨rfl,rfl,rfl,Nat.le_refl _,fun _ _ _=>⟨rfl,rfl⟩,cz,rfl,fun j hj=>by simp [eA,hj]⟩ (by rw [ade]; exact br)⟩
      rcases sr with ⟨_,rfl,_⟩ | ⟨g,o,n',cap,o',cap',_,rfl,_⟩
      ·simp [Builtin.clear_,run_underlying hu]
      ·simp [Builtin.clear_,run_underlying hu]
     ·rcases sr with ⟨_,_,h0⟩ | ⟨g,o,n',cap,o',cap',J0,rfl,_,_,_,h0⟩
      ·exact absurd h0 hlen
      have NI:o'=o+off*sz row.τ:=h0.resolve_left hlen
      have C5:=br.top
      rw [C0] at C5
      obtain ⟨gV,pc⟩:=C5
      rcases gV.2 with ⟨h3,_⟩ | ⟨g1,cap1,cur,h3,_,hg,Iv,Rl,je,Tt⟩
      ·rw [h3] at J0; cases J0
      have Nw:g1=g/\0=o:=by
       rw [h3] at J0; injection J0 with h _ _; injection h with h; injection h with h2 h3 _; exact ⟨h2,h3⟩
      obtain ⟨rfl,rfl⟩:=Nw
      subst NI
      have Xn:row.xs.length*sz row.τ<=cur.size:=by rw [je]; exact zP _ Iv
      have hlz:(off+len)*sz row.τ<=row.xs.length*sz row.τ:=zP _ hle
      rw [Nat.add_mul] at hlz
      have T5:∀ e c,e<len->c<sz row.τ->(madeCells z.cells (len*z.cells.size)).toList[e*sz row.τ+c]? =((cells row.τ (cy row.τ))[c]?).map gJ:=by
       intro e c he lS
       rw [J9,Hu J9 (o6 _) he lS,hc,List.getElem?_map]
      have ib:∀ u∈(madeCells z.cells (len*z.cells.size)).toList,u.oneCell'=true:=by
       intro u pg
       obtain ⟨j,hj⟩:=List.mem_iff_getElem?.1 pg
       have N1:j<len*sz row.τ:=by
        have:=(zU.1 hj).1; simpa [size_madeCells,J9] using this
       have hq:j/sz row.τ<len:=Nat.div_lt_of_lt_mul (by rwa [Nat.mul_comm])
       have J5:j % sz row.τ<sz row.τ:=Nat.mod_lt _ (o6 _)
       have he:j/sz row.τ*sz row.τ+j % sz row.τ=j:=by rw [Nat.mul_comm]; exact Nat.div_add_mod j _
       have:=T5 _ _ hq J5
       rw [he,hj] at this
       cases dk:(cells row.τ (cy row.τ))[j % sz row.τ]? with
       | none=>rw [dk] at this; cases this
       | some ct =>
        rw [dk] at this; simp only [Option.map_some,zA] at this
        rw [this]; exact Og _ (List.mem_map_of_mem (List.mem_of_getElem? dk))
      have nE:=Mk (w:=w) (cap:=cap') hu hi hz (g:=g1) (o:=0+off*sz row.τ) (n:=len) hg (by rw [J9]; omega) ib (by omega) ty
      have NY:(madeCells z.cells (len*z.cells.size)).toList.length=len*sz row.τ:=by simp [size_madeCells,J9]
      have Qc:γ.O g1=some (.r r):=pc g1 (by rw [h3]; rfl)
      refine ⟨_,_,nE,same (Soft.cY (γ.cv r) (off*sz row.τ) (madeCells z.cells (len*z.cells.size)).toList) γ.O _ ?_ ?_⟩
      ·exact ⟨rfl,rfl,rfl,by simp,fun g sB cT=>⟨mj w _ _ g (fun h=>by have:=(cT r rfl).1; rw [h,Qc] at this; exact this rfl),rfl⟩,
        fun g sB=>cz g (by simpa using sB),rfl,fun j hj=>by simp [eA,hj]⟩
      ·have nh:(γ.cv r).length=row.xs.length*sz row.τ:=gV.1
       refine ⟨?_,fun e c ct he dk=> ?_⟩
       ·show Sl X γ.O _ (dU r row.ow) row.τ _ (pL row.xs off len).length _
        rw [wg _ hle,C0]
        refine ⟨⟨by rw [im _ _ _ (by rw [nh,NY]; omega),nh],.inr ⟨g1,cap1,_,h3,Nat.zero_le _,tg w _ _ _ _ _ hg,Iv,Rl,?_,?_⟩⟩,pc⟩
        ·rw [List.size_toArray,im _ _ _ (by rw [NY,Array.length_toList]; omega),Array.length_toList,je]
        ·rw [List.toList_toArray,uf _ _ _ _ (by rw [NY]; omega) (by simpa using Xn),Tt,Nat.zero_add]
       ·have Tp:e<row.xs.length:=by
         have:e<(pL row.xs off len).length:=he
         rwa [wg _ hle] at this
        have tK:(cells row.τ ((pL row.xs off len).getD e (cy row.τ)))[c]? =some ct:=dk
        have lS:c<sz row.τ:=by have:=(zU.1 tK).1; rwa [bf] at this
        rw [Pp _ hle] at tK
        show ∃ u,(Soft.cY (γ.cv r) (off*sz row.τ) _)[e*sz row.τ+c]? =some u/\gm X γ.O _ (dY r e c row.ow) ct u
        have Wa:(e+1)*sz row.τ<=row.xs.length*sz row.τ:=zP _ Tp
        rw [Nat.add_mul] at Wa
        by_cases z5:off<=e/\e<off+len
        ·rw [if_pos z5] at tK
         obtain ⟨j,rfl⟩:∃ j,e=off+j:=⟨e-off,by omega⟩
         have hj:j<len:=by omega
         have hjz:(j+1)*sz row.τ<=len*sz row.τ:=zP _ hj
         rw [Nat.add_mul] at hjz
         refine ⟨gJ ct,?_,DY _ tK _ _ _ _⟩
         rw [show (off+j)*sz row.τ+c=off*sz row.τ+(j*sz row.τ+c) by rw [Nat.add_mul]; omega,dK _ _ _ _ (by rw [NY]; omega) (by rw [NY,nh]; omega),T5 j c hj lS,tK]
         rfl
        ·rw [if_neg z5] at tK
         obtain ⟨u,pg,eO⟩:=br.rU e c ct Tp tK
         refine ⟨u,?_,eO.re (fun g o sB sx=>⟨(mj w _ _ g (fun h=>vP sx (h▸Qc))).trans sB,sx⟩) id⟩
         rcases Nat.lt_or_ge e off with h | h
         ·have h4:(e+1)*sz row.τ<=off*sz row.τ:=zP _ h
          rw [Nat.add_mul] at h4
          rw [c8 _ _ _ _ (by omega) (by rw [nh]; omega)]; exact pg
         ·have h4:(off+len)*sz row.τ<=e*sz row.τ:=zP _ (by omega)
          rw [Nat.add_mul] at h4
          rw [cZ _ _ _ _ (by rw [NY]; omega) (by rw [NY,nh]; omega)]; exact pg
theorem Sr {α:Type} (a b c:List α) (h:b.length<=c.length):Soft.cY (a++c) a.length b=a++(b++c.drop b.length):=by
 simp only [Soft.cY,List.take_left,List.append_assoc,List.drop_append]
 congr 2
 simp [List.drop_of_length_le]
theorem P6 {z:Nat}:∀ (parts:List (Nat×Value)) (k:Nat) (cells:Array Value) (pre rest:List Value),(∀ j p,parts[j]? =some p->p.1=k+j/\p.2.cells.size=z)->cells.toList=pre++rest->pre.length=k*z ->
  rest.length=parts.length*z->∃ arr,Instr.fill (fun i=>some (i*z,z)) cells parts=some arr/\arr.toList=pre++(parts.flatMap fun p=>p.2.cells.toList):=by
 intro parts
 induction parts with
 | nil=>intro k cells pre rest _ hc _ hr; exact ⟨cells,rfl,by rw [hc]; simp at hr; simp [hr]⟩
 | cons p parts ih =>
  intro k cells pre rest hp hc xS eL
  obtain ⟨i,v⟩:=p
  obtain ⟨h1,h2⟩:=hp 0 (i,v) rfl
  simp only [Nat.add_zero] at h1
  subst h1
  simp only [zR,Nat.add_mul] at eL
  have mH:cells.size=pre.length+rest.length:=by rw [← Array.length_toList,hc,zK]
  simp only [Instr.fill]
  rw [if_neg (by simp [h2]; omega)]
  have hf:=G8 (i*z) v.cells.toList 0 cells (by simp [h2]; omega)
  rw [Nat.add_zero,hc] at hf
  have e:(Array.foldl (fun cs (x:Value×Nat)=>cs.setIfInBounds (i*z+x.2) x.1) cells v.cells.zipIdx).toList=(pre++v.cells.toList)++rest.drop z:=by
   rw [← Array.foldl_toList,Array.toList_zipIdx]
   rw [hf,← xS,Sr _ _ _ (by simp [h2]; omega)]
   simp [h2]
  obtain ⟨arr,ha,hl⟩:=ih (i+1) _ (pre++v.cells.toList) (rest.drop z) (fun j p hj=>by
   obtain ⟨h3,h4⟩:=hp (j+1) p (by simpa using hj)
   exact ⟨by omega,h4⟩) e (by simp [xS,h2,Nat.add_mul]) (by simp; omega)
  exact ⟨arr,ha,by rw [hl]; simp⟩
theorem RH {P:Program} {t e:TypeId} {i:TypeInfo} {zv:Value} {z n:Nat} {parts:Array (Nat×Value)} (hu:P.underlying t=some (.slice e)) (hi:P.info? e=some i) (hz:i.zero=some zv) (hs:i.size=z) (hzp:0<z)
  (aep:n*z<=2 ^ 24) (hn:parts.size=n) (hp:∀ (j:Nat) (p:Nat×Value),parts.toList[j]? =some p->p.1=j/\p.2.cells.size=z) :
  (Instr.buildSlice t n parts).run P w= .ok (.slice (some ⟨w.heap.size,0,none⟩) n n) (w.alloc (.cells (parts.toList.flatMap fun p=>p.2.cells.toList).toArray e)):=by
 subst hs
 by_cases h0:n=0
 ·subst h0
  have:parts= #[]:=Array.eq_empty_of_size_eq_zero hn
  subst this
  simp [Instr.buildSlice,run_underlying hu,o7 hi,Instr.fill,newRow]
  rw [show Array.map (fun _=>(default:Value)) (Array.range 0)= #[] by simp [Array.range]]
 ·have J6:¬ n*i.size=0:=by
   intro h; rcases Nat.mul_eq_zero.1 h with h | h<;>omega
  obtain ⟨arr,ha,hl⟩:=P6 (z:=i.size) parts.toList 0 ((Array.range (n*i.size)).map (zv.cells[· % zv.cells.size]!)) [] _ (fun j p hj=>by simpa using hp j p hj) (by simp; rfl) (by simp) (by simp [hn])
  have ad1:arr=(parts.toList.flatMap fun p=>p.2.cells.toList).toArray:=by apply Array.toList_inj.1; rw [hl]; simp
  rw [run_buildSlice w t e n parts arr i zv hu hi hz (by omega) J6 ha,ad1]
inductive HN (M:Lk) (γ:Gh):List (List Cv)->List (List Value)->Prop
 | nil:HN M γ [] []
 | cons {x:List Cv} {v:List Value} {l:List (List Cv)} {u:List (List Value)}:cj M γ x v->HN M γ l u->HN M γ (x::l) (v::u)
theorem Mr (hm:Le m M) (hR:Rel X M γ w) {key dS:Nat} (tM:dS=2\/dS=4\/dS=5) {O':OM} {w':World} {τ:Ty} :
  ∀ (l:List (List Cv)) (vss:List (List Value)) (e0:Nat) (b:XC τ),HN M γ l vss->m.kq τ e0 l=some b->dS<=b.lv->(τ.isByte=true->b.ok=true)->Jb M γ w O' w' l.flatten b.mv b.sh key dS ->
   b.ys.length=l.length/\(∀ (j:Nat) (vs:List Value),vss[j]? =some vs->vs.length=sz τ)/\vss.length=l.length /\
   ∀ (j c:Nat) (ct:Ct),j<l.length->(cells τ (b.ys.getD j (cy τ)))[c]? =some ct->∃ u,vss.flatten[j*sz τ+c]? =some u/\gm X O' w' (dY key (e0+j) c dS) ct u:=by
 intro l
 induction l with
 | nil =>
  intro vss e0 b hr hb _ _ _
  simp only [Lk.kq,zA] at hb; subst hb
  cases hr
  simp
 | cons x l ih =>
  intro vss e0 b hr hb hle xV hO
  cases hr with
  | cons hx hl =>
   rename_i v u
   simp only [Lk.kq] at hb
   cases ha:m.bW e0 0 x with
   | none=>simp [ha] at hb
   | some a =>
    cases eL:m.kq τ (e0+1) l with
    | none=>simp [ha,eL] at hb
    | some b2 =>
     cases hy:sj τ a.iJ with
     | none=>simp [ha,eL,hy] at hb
     | some y =>
      simp only [ha,eL,hy,zA] at hb; subst hb
      simp only at hle xV hO ⊢
      obtain ⟨i1,i2,i3,i4⟩:=ih u (e0+1) b2 hl eL (by omega) (fun h=>by have:=xV h; simp only [zB] at this; exact this.2)
       (hO.mono (fun x hx=>by simp [hx]) (fun p hp=>by simp [hp]) (fun p hp=>by simp [hp]))
      have Xa:=rh hy (fun h=>by have:=xV h; simp only [zB] at this; exact this.1)
      obtain ⟨h1,h2⟩:=A9 hm hR tM x v 0 a hx ha (by omega) (hO.mono (fun x hx=>by simp [hx]) (fun p hp=>by simp [hp]) (fun p hp=>by simp [hp]))
      have Nq:v.length=sz τ:=by rw [← hx.length,← h1,← Xa,bf]
      refine ⟨by simp [i1],fun j vs hj=> ?_,by simp [i3],fun j c ct hj dk=> ?_⟩
      ·cases j with
       | zero=>simp at hj; subst hj; exact Nq
       | succ j=>exact i2 j vs (by simpa using hj)
      ·cases j with
       | zero =>
        simp only [List.getD_cons_zero,Xa] at dk
        obtain ⟨uu,hu,eO⟩:=h2 c ct dk
        have hc:c<v.length:=(zU.1 hu).1
        exact ⟨uu,by simp only [List.flatten_cons,Nat.zero_mul,Nat.zero_add]; rw [List.getElem?_append_left hc]; exact hu,by simpa using eO⟩
       | succ j =>
        simp only [List.getD_cons_succ] at dk
        obtain ⟨uu,hu,eO⟩:=i4 j c ct (by simpa using hj) dk
        refine ⟨uu,?_,by rw [show e0+(j+1)=e0+1+j by omega]; exact eO⟩
        rw [List.flatten_cons,List.getElem?_append_right (by rw [Nq,Nat.add_mul]; omega),Nq,← hu]
        congr 1; rw [Nat.add_mul]; omega
theorem Ef {τ:Ty}:∀ {l:List (List Cv)} {e:Nat} {b:XC τ},m.kq τ e l=some b->b.lv=2\/b.lv=4\/b.lv=5
 | [],e,b,h=>by simp only [Lk.kq,zA] at h; subst h; simp
 | x::l,e,b,h=>by
  simp only [Lk.kq] at h
  cases ha:m.bW e 0 x with
  | none=>simp [ha] at h
  | some a =>
   cases hr:m.kq τ (e+1) l with
   | none=>simp [ha,hr] at h
   | some b2 =>
    cases hy:sj τ a.iJ with
    | none=>simp [ha,hr,hy] at h
    | some y =>
     simp only [ha,hr,hy,zA] at h; subst h
     have:=qL ha
     have:=Ef hr
     simp only; omega
theorem EE {τ:Ty}:∀ {l:List (List Cv)} {e:Nat} {b:XC τ} {r k:Nat},m.kq τ e l=some b->(r,k)∈b.sh->∃ row,m.r r=some row/\((k=3/\oq 4 row.ow=true)\/(k=4/\row.ow=5))
 | [],e,b,r,k,h,hs=>by simp only [Lk.kq,zA] at h; subst h; simp at hs
 | x::l,e,b,r,k,h,hs=>by
  simp only [Lk.kq] at h
  cases ha:m.bW e 0 x with
  | none=>simp [ha] at h
  | some a =>
   cases hr:m.kq τ (e+1) l with
   | none=>simp [ha,hr] at h
   | some b2 =>
    cases hy:sj τ a.iJ with
    | none=>simp [ha,hr,hy] at h
    | some y =>
     simp only [ha,hr,hy,zA] at h; subst h
     simp only [zH] at hs
     rcases hs with hs | hs
     ·exact mE ha hs
     ·exact EE hr hs
end Go.Soft
