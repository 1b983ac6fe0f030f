import Derived.Test.YthkhihfodaobkaaGreatGC
import Derived.Laws.BitsLemmas
set_option linter.constructorNameAsVariable false
set_option linter.unusedVariables false
set_option linter.unusedSimpArgs false
set_option maxRecDepth 100000
namespace Go.Soft
open Go
variable {R:Type}
def w_big (code:List UInt8) (k0:Bool->Option R):Option R :=
 k0 (decide (1048576<(code.length:Int)))
def s_l01New_l3 (code:List UInt8) (q0:Int->Option R):Nat->Int->Int->Option R
 | 0,_,_=>none
 | m+1,xh,i =>
  bif (decide (i<(code.length:Int)))&&(decide (i<4000)) then
  chk (inR i code.length) <|
  s_l01New_l3 code q0 m (andK .i64 (w64 ((w64 ((w64 (xh*131))+(w64 (((code.getD i.toNat 0).toNat:Int)))))+7)) 1073741823) (w64 (i+1))
  else
  q0 xh
def s_l01New (n:Nat) (code:List UInt8) (k0:Cur->Option R):Option R :=
 s_l01New_l3 code (fun xh =>
  k0 ⟨code,0,xh⟩) n (w64 (37701+(code.length:Int))) 0
def s_BitsNew (k0:Bits->Option R):Option R :=
 chk (inR 0 ((List.replicate 8 false).length)) <|
 let row:=((List.replicate 8 false).set 0 true)
 k0 ⟨(List.replicate 16 false),row⟩
def s_InodeNew (kind:Int) (k0:Inode->Option R):Option R :=
 bif (kind==0) then
  k0 ⟨kind,0,(List.replicate 2 0)⟩
 else
 k0 ⟨kind,1,(List.replicate 2 0)⟩
def s_DiskNew_l3 (q0:(List Inode)->Option R):Nat->Int->(List Inode)->Option R
 | 0,_,_=>none
 | m+1,i,v_6 =>
  bif (decide (i<8)) then
  s_InodeNew 0 fun i_1 =>
  let row:=(v_6++([i_1]))
  chk (lenOk row) <|
  s_DiskNew_l3 q0 m (w64 (i+1)) row
  else
  q0 v_6
def s_DiskNew (n:Nat) (k0:Disk->Option R):Option R :=
 s_BitsNew fun b =>
 s_DiskNew_l3 (fun v =>
  s_InodeNew 2 fun i =>
  chk (inR 0 v.length) <|
  let row:=(v.set 0 i)
  k0 ⟨b,row,(List.replicate 16 dBlock)⟩) n 0 ([])
def s_BitsOk (b:Bits) (k0:Bool->Option R):Option R :=
 k0 (((b.Blocks.length:Int)==16)&&((b.Inos.length:Int)==8))
def s_l01In (x:Int) (least:Int) (most:Int) (k0:Bool->Option R):Option R :=
 k0 ((decide (least<=x))&&(decide (x<=most)))
def s_InodeOk_l4 (v:Int) (v_2:List Int) (q0:Bool->Option R) (q1:Option R):Nat->Int->Option R
 | 0,_=>none
 | m+1,i =>
  bif (decide (i<2)) then
  chk (inR i v_2.length) <|
  s_l01In (v_2.getD i.toNat 0) 0 16 fun r =>
  chk (!((!(!r))&&(v==0))||(inR i v_2.length)) <|
  bif (!r)||((v==0)&&(!((v_2.getD i.toNat 0)==0))) then
   q0 false
  else
  s_InodeOk_l4 v v_2 q0 q1 m (w64 (i+1))
  else
  q1
def s_InodeOk (n:Nat) (x:Inode) (k0:Bool->Option R):Option R :=
 s_l01In x.Kind 0 2 fun r =>
 s_l01In x.Links 0 200 fun r_1 =>
 let z:=bif !(!r) then r_1 else false
 bif ((!r)||(!z))||(!((x.Ptrs.length:Int)==2)) then
  k0 false
 else
 s_InodeOk_l4 x.Kind x.Ptrs (fun x_1 =>
  k0 x_1) (
  k0 ((!(x.Kind==0))||(x.Links==0))) n 0
def s_NameOk_l2 (s:ByteArray) (q0:Bool->Option R) (q1:Option R):Nat->Int->Option R
 | 0,_=>none
 | m+1,i =>
  bif (decide (i<(s.size:Int))) then
  chk (inR i s.size) <|
  chk (!(!(decide ((bt s i.toNat:Int)<97)))||(inR i s.size)) <|
  chk (!((decide ((bt s i.toNat:Int)<97))||(decide (122<(bt s i.toNat:Int))))||(inR i s.size)) <|
  chk (!(((decide ((bt s i.toNat:Int)<97))||(decide (122<(bt s i.toNat:Int))))&&(!(decide ((bt s i.toNat:Int)<48))))||(inR i s.size)) <|
  bif ((decide ((bt s i.toNat:Int)<97))||(decide (122<(bt s i.toNat:Int))))&&((decide ((bt s i.toNat:Int)<48))||(decide (57<(bt s i.toNat:Int)))) then
   q0 false
  else
  s_NameOk_l2 s q0 q1 m (w64 (i+1))
  else
  q1
def s_NameOk (n:Nat) (s:ByteArray) (k0:Bool->Option R):Option R :=
 s_NameOk_l2 s (fun x =>
  k0 x) (
  s_l01In (s.size:Int) 1 6 fun r =>
  k0 r) n 0
def s_BlockOk_l13 (i:Int) (v_2:ByteArray) (v_4:List Slot) (q0:Bool->Option R) (q1:Option R):Nat->Int->Option R
 | 0,_=>none
 | m+1,xk =>
  bif (decide (xk<i)) then
  chk (inR xk v_4.length) <|
  bif (((v_4.getD xk.toNat dSlot).Name)==v_2) then
   q0 false
  else
  s_BlockOk_l13 i v_2 v_4 q0 q1 m (w64 (xk+1))
  else
  q1
def s_BlockOk_l6 (n:Nat) (v_2:List Slot) (q0:Bool->Option R) (q1:Option R):Nat->Int->Option R
 | 0,_=>none
 | m+1,i =>
  bif (decide (i<4)) then
  chk (inR i v_2.length) <|
  let el:=(v_2.getD i.toNat dSlot)
  bif (el.Name==eS)&&(el.Ino==0) then
   s_BlockOk_l6 n v_2 q0 q1 m (w64 (i+1))
  else
  s_NameOk n el.Name fun r =>
  s_l01In el.Ino 1 8 fun r_1 =>
  let z:=bif !(!r) then r_1 else false
  bif (!r)||(!z) then
   q0 false
  else
  s_BlockOk_l13 i el.Name v_2 (fun x =>
   q0 x) (
   s_BlockOk_l6 n v_2 q0 q1 m (w64 (i+1))) m 0
  else
  q1
def s_BlockOk (n:Nat) (b:Block) (k0:Bool->Option R):Option R :=
 bif !b.Dir then
  k0 (((b.Slots.length:Int)==0)&&(decide ((b.Text.size:Int)<=16)))
 else
 bif (!((b.Slots.length:Int)==4))||(!(b.Text==eS)) then
  k0 false
 else
 s_BlockOk_l6 n b.Slots (fun x =>
  k0 x) (
  k0 true) n 0
def s_DiskOk_l4 (n:Nat) (v_2:List Inode) (q0:Bool->Option R) (q1:Option R):Nat->Int->Option R
 | 0,_=>none
 | m+1,i =>
  bif (decide (i<(v_2.length:Int))) then
  chk (inR i v_2.length) <|
  let el:=(v_2.getD i.toNat dInode)
  s_InodeOk n el fun r =>
  bif !r then
   q0 false
  else
  s_DiskOk_l4 n v_2 q0 q1 m (w64 (i+1))
  else
  q1
def s_DiskOk_l9 (n:Nat) (v_3:List Block) (q0:Bool->Option R) (q1:Option R):Nat->Int->Option R
 | 0,_=>none
 | m+1,i =>
  bif (decide (i<(v_3.length:Int))) then
  chk (inR i v_3.length) <|
  let el:=(v_3.getD i.toNat dBlock)
  s_BlockOk n el fun r =>
  bif !r then
   q0 false
  else
  s_DiskOk_l9 n v_3 q0 q1 m (w64 (i+1))
  else
  q1
def s_DiskOk (n:Nat) (d:Disk) (k0:Bool->Option R):Option R :=
 s_BitsOk d.Bits fun r =>
 bif ((!r)||(!((d.Inodes.length:Int)==8)))||(!((d.Blocks.length:Int)==16)) then
  k0 false
 else
 s_DiskOk_l4 n d.Inodes (fun x =>
  k0 x) (
  s_DiskOk_l9 n d.Blocks (fun x_1 =>
  k0 x_1) (
  k0 true) n 0) n 0
def s_l05Byte_l4 (list:List Bool) (q0:Int->Option R):Nat->Int->Int->Int->Option R
 | 0,_,_,_=>none
 | m+1,xn,bit,i =>
  bif (decide (i<(list.length:Int))) then
  chk (inR i list.length) <|
  bif (list.getD i.toNat false) then
   s_l05Byte_l4 list q0 m (w64 (xn+bit)) (w64 (2*bit)) (w64 (i+1))
  else
  s_l05Byte_l4 list q0 m xn (w64 (2*bit)) (w64 (i+1))
  else
  q0 xn
def s_l05Byte (n:Nat) (list:List Bool) (k0:Int->Option R):Option R :=
 s_l05Byte_l4 list (fun xn =>
  k0 (IntKind.u8.wrap (xn))) n 0 1 0
def s_BitsText (n:Nat) (b:Bits) (k0:ByteArray->Bool->Option R):Option R :=
 s_BitsOk b fun r =>
 bif !r then
  k0 eS false
 else
 chk (loOk 8 b.Blocks.length) <|
 s_l05Byte n (sub b.Blocks 0 8) fun r_1 =>
 chk (loOk 8 b.Blocks.length) <|
 s_l05Byte n (sub b.Blocks 8 (b.Blocks.length-8)) fun r_2 =>
 s_l05Byte n b.Inos fun r_3 =>
 let lit:=([(UInt8.ofNat r_1.toNat),(UInt8.ofNat r_2.toNat),(UInt8.ofNat r_3.toNat)]:List UInt8)
 chk (byteOk r_1&&(byteOk r_2&&(byteOk r_3&&true))) <|
 k0 (mkS lit) true
def s_InodeText (n:Nat) (x:Inode) (k0:ByteArray->Bool->Option R):Option R :=
 s_InodeOk n x fun r =>
 bif !r then
  k0 eS false
 else
 chk (inR 0 x.Ptrs.length) <|
 chk (inR 1 x.Ptrs.length) <|
 let lit:=([(UInt8.ofNat ((IntKind.u8.wrap (x.Kind)).toNat)),(UInt8.ofNat ((IntKind.u8.wrap (x.Links)).toNat)),(UInt8.ofNat ((IntKind.u8.wrap ((x.Ptrs.getD 0 0))).toNat)),(UInt8.ofNat ((IntKind.u8.wrap ((x.Ptrs.getD 1 0))).toNat))]:List UInt8)
 chk (byteOk (IntKind.u8.wrap (x.Kind))&&(byteOk (IntKind.u8.wrap (x.Links))&&(byteOk (IntKind.u8.wrap ((x.Ptrs.getD 0 0)))&&(byteOk (IntKind.u8.wrap ((x.Ptrs.getD 1 0)))&&true)))) <|
 k0 (mkS lit) true
def s_l01Var_l2 (q0:Int->(List UInt8)->Option R):Nat->Int->(List UInt8)->Option R
 | 0,_,_=>none
 | m+1,xn,out =>
  bif (decide (127<xn)) then
  chk (byteOk (IntKind.u8.wrap ((w64 ((xn.tmod 128)+128))))&&true) <|
  let row:=(out++([(UInt8.ofNat ((IntKind.u8.wrap ((w64 ((xn.tmod 128)+128)))).toNat))]))
  chk (lenOk row) <|
  s_l01Var_l2 q0 m (w64 (xn.tdiv 128)) row
  else
  q0 xn out
def s_l01Var (n:Nat) (xn:Int) (k0:ByteArray->Option R):Option R :=
 s_l01Var_l2 (fun xn_1 out =>
  chk (byteOk (IntKind.u8.wrap (xn_1))&&true) <|
  let row:=(out++([(UInt8.ofNat ((IntKind.u8.wrap (xn_1)).toNat))]))
  chk (lenOk row) <|
  k0 (mkS row)) n xn ([])
def s_BlockText_l7 (n:Nat) (v_2:List Slot) (q0:ByteArray->Option R):Nat->ByteArray->Int->Option R
 | 0,_,_=>none
 | m+1,s,i =>
  bif (decide (i<4)) then
  chk (inR i v_2.length) <|
  chk (byteOk (IntKind.u8.wrap ((v_2.getD i.toNat dSlot).Ino))&&true) <|
  chk (sizeOk s (mkS ([(UInt8.ofNat ((IntKind.u8.wrap ((v_2.getD i.toNat dSlot).Ino)).toNat))]))) <|
  chk (inR i v_2.length) <|
  s_l01Var n (((v_2.getD i.toNat dSlot).Name).size:Int) fun r =>
  chk (sizeOk (s++(mkS ([(UInt8.ofNat ((IntKind.u8.wrap ((v_2.getD i.toNat dSlot).Ino)).toNat))]))) r) <|
  chk (inR i v_2.length) <|
  chk (sizeOk ((s++(mkS ([(UInt8.ofNat ((IntKind.u8.wrap ((v_2.getD i.toNat dSlot).Ino)).toNat))])))++r) ((v_2.getD i.toNat dSlot).Name)) <|
  s_BlockText_l7 n v_2 q0 m (((s++(mkS ([(UInt8.ofNat ((IntKind.u8.wrap ((v_2.getD i.toNat dSlot).Ino)).toNat))])))++r)++((v_2.getD i.toNat dSlot).Name)) (w64 (i+1))
  else
  q0 s
def s_BlockText (n:Nat) (b:Block) (k0:ByteArray->Bool->Option R):Option R :=
 s_BlockOk n b fun r =>
 bif !r then
  k0 eS false
 else
 bif !b.Dir then
  chk (sizeOk (S [116]) b.Text) <|
  k0 ((S [116])++b.Text) true
 else
 s_BlockText_l7 n b.Slots (fun s =>
  k0 s true) n (S [100]) 0
def s_l07Unit (n:Nat) (d:Disk) (u:Int) (k0:ByteArray->Option R):Option R :=
 bif (u==0) then
  s_BitsText n d.Bits fun r r_1 =>
  k0 r
 else
 bif (decide (u<=4)) then
  chk (inR (w64 ((w64 (2*u))-2)) d.Inodes.length) <|
  let el:=(d.Inodes.getD ((w64 ((w64 (2*u))-2)).toNat) dInode)
  s_InodeText n el fun r_2 r_3 =>
  chk (inR (w64 ((w64 (2*u))-1)) d.Inodes.length) <|
  let el_1:=(d.Inodes.getD ((w64 ((w64 (2*u))-1)).toNat) dInode)
  s_InodeText n el_1 fun r_4 r_5 =>
  chk (sizeOk r_2 r_4) <|
  k0 (r_2++r_4)
 else
 chk (inR (w64 (u-5)) d.Blocks.length) <|
 let el_2:=(d.Blocks.getD ((w64 (u-5)).toNat) dBlock)
 s_BlockText n el_2 fun r_6 r_7 =>
 k0 r_6
def s_DeviceOf_l5 (n:Nat) (v:List Bool) (v_1:List Bool) (v_2:List Inode) (v_3:List Block) (q0:(List ByteArray)->Option R):Nat->Int->(List ByteArray)->Option R
 | 0,_,_=>none
 | m+1,u,v_5 =>
  bif (decide (u<21)) then
  s_l07Unit n ⟨⟨v,v_1⟩,v_2,v_3⟩ u fun r =>
  let row:=(v_5++([r]))
  chk (lenOk row) <|
  s_DeviceOf_l5 n v v_1 v_2 v_3 q0 m (w64 (u+1)) row
  else
  q0 v_5
def s_DeviceOf (n:Nat) (d:Disk) (k0:Device->Bool->Option R):Option R :=
 s_DiskOk n d fun r =>
 bif !r then
  k0 ⟨[]⟩ false
 else
 s_DeviceOf_l5 n d.Bits.Blocks d.Bits.Inos d.Inodes d.Blocks (fun v =>
  k0 ⟨v⟩ true) n 0 ([])
def s_l05Copy (b:Bits) (k0:Bits->Option R):Option R :=
 let row:=(([])++b.Blocks)
 chk (lenOk row) <|
 let row_1:=(([])++b.Inos)
 chk (lenOk row_1) <|
 k0 ⟨row,row_1⟩
def s_l03Copy (x:Inode) (k0:Inode->Option R):Option R :=
 let row:=(([])++x.Ptrs)
 chk (lenOk row) <|
 k0 ⟨x.Kind,x.Links,row⟩
def s_l04Copy (b:Block) (k0:Block->Option R):Option R :=
 let row:=(([])++b.Slots)
 chk (lenOk row) <|
 k0 ⟨b.Dir,row,b.Text⟩
def s_l07Copy_l3 (v_2:List Inode) (q0:(List Inode)->Option R):Nat->Int->(List Inode)->Option R
 | 0,_,_=>none
 | m+1,i,v_10 =>
  bif (decide (i<(v_2.length:Int))) then
  chk (inR i v_2.length) <|
  let el:=(v_2.getD i.toNat dInode)
  s_l03Copy el fun i_1 =>
  let row:=(v_10++([i_1]))
  chk (lenOk row) <|
  s_l07Copy_l3 v_2 q0 m (w64 (i+1)) row
  else
  q0 v_10
def s_l07Copy_l7 (v_3:List Block) (q0:(List Block)->Option R):Nat->Int->(List Block)->Option R
 | 0,_,_=>none
 | m+1,i,v_11 =>
  bif (decide (i<(v_3.length:Int))) then
  chk (inR i v_3.length) <|
  let el:=(v_3.getD i.toNat dBlock)
  s_l04Copy el fun b =>
  let row:=(v_11++([b]))
  chk (lenOk row) <|
  s_l07Copy_l7 v_3 q0 m (w64 (i+1)) row
  else
  q0 v_11
def s_l07Copy (n:Nat) (d:Disk) (k0:Disk->Option R):Option R :=
 s_l05Copy d.Bits fun b =>
 s_l07Copy_l3 d.Inodes (fun v =>
  s_l07Copy_l7 d.Blocks (fun v_1 =>
  k0 ⟨b,v,v_1⟩) n 0 ([])) n 0 ([])
def s_MemNew (n:Nat) (d:Disk) (k0:Mem->Option R):Option R :=
 s_l07Copy n d fun d_1 =>
 k0 ⟨d_1,(List.replicate 21 false),[],1⟩
def s_FsNew (n:Nat) (k0:Fs->Option R):Option R :=
 s_DiskNew n fun d =>
 s_DeviceOf n d fun d_1 r =>
 s_DiskNew n fun d_2 =>
 s_MemNew n d_2 fun xm =>
 k0 ⟨xm,d_1⟩
def s_l01Byte (c:Cur) (k0:Int->Cur->Option R):Option R :=
 bif (decide (c.i<(c.b.length:Int))) then
  chk (inR c.i c.b.length) <|
  k0 (andK .i64 (w64 ((andK .i64 (xorK .i64 (shrK .i64 (w64 ((w64 (c.h*6364136223846793005))+1442695040888963407)) 33) (shrK .i64 (w64 ((w64 (c.h*6364136223846793005))+1442695040888963407)) 45)) 255)+(w64 (((c.b.getD c.i.toNat 0).toNat:Int))))) 255) ⟨c.b,(w64 (c.i+1)),(w64 ((w64 (c.h*6364136223846793005))+1442695040888963407))⟩
 else
 k0 (andK .i64 (xorK .i64 (shrK .i64 (w64 ((w64 (c.h*6364136223846793005))+1442695040888963407)) 33) (shrK .i64 (w64 ((w64 (c.h*6364136223846793005))+1442695040888963407)) 45)) 255) ⟨c.b,c.i,(w64 ((w64 (c.h*6364136223846793005))+1442695040888963407))⟩
def s_l01Below (xn:Int) (c:Cur) (k0:Int->Cur->Option R):Option R :=
 bif (decide (xn<=0)) then
  k0 0 c
 else
 bif (decide (xn<=256)) then
  s_l01Byte c fun r lo =>
  chk (!(xn==0)) <|
  k0 (r.tmod xn) ⟨c.b,lo.i,lo.h⟩
 else
 s_l01Byte c fun r_1 lo_1 =>
 s_l01Byte ⟨c.b,lo_1.i,lo_1.h⟩ fun r_2 lo_2 =>
 s_l01Byte ⟨c.b,lo_2.i,lo_2.h⟩ fun r_3 lo_3 =>
 s_l01Byte ⟨c.b,lo_3.i,lo_3.h⟩ fun r_4 lo_4 =>
 chk (!(xn==0)) <|
 k0 ((w64 ((w64 ((w64 ((w64 (r_1*16777216))+(w64 (r_2*65536))))+(w64 (r_3*256))))+r_4)).tmod xn) ⟨c.b,lo_4.i,lo_4.h⟩
def s_l01PickInt (list:List Int) (c:Cur) (k0:Int->Cur->Option R):Option R :=
 s_l01Below (list.length:Int) c fun r lo =>
 chk (inR r list.length) <|
 k0 (list.getD r.toNat 0) ⟨c.b,lo.i,lo.h⟩
def s_l01Pick (list:List ByteArray) (c:Cur) (k0:ByteArray->Cur->Option R):Option R :=
 s_l01Below (list.length:Int) c fun r lo =>
 chk (inR r list.length) <|
 k0 (list.getD r.toNat eS) ⟨c.b,lo.i,lo.h⟩
def s_l04Name (c:Cur) (k0:ByteArray->Cur->Option R):Option R :=
 let lit:=([S [97],S [98],S [99],S [100,100],S [101,49]]:List ByteArray)
 s_l01Pick lit c fun r lo =>
 k0 r ⟨c.b,lo.i,lo.h⟩
def s_l01Once (xn:Int) (c:Cur) (k0:Bool->Cur->Option R):Option R :=
 s_l01Below xn c fun r lo =>
 k0 (r==0) ⟨c.b,lo.i,lo.h⟩
def s_l17Next_l6 (v_18:List Node) (q0:(List ByteArray)->(List ByteArray)->(List ByteArray)->Option R):Nat->Int->(List ByteArray)->(List ByteArray)->(List ByteArray)->Option R
 | 0,_,_,_,_=>none
 | m+1,i,files,dirs,all =>
  bif (decide (i<(v_18.length:Int))) then
  chk (inR i v_18.length) <|
  let row:=(all++([(v_18.getD i.toNat dNode).Path]))
  chk (lenOk row) <|
  chk (inR i v_18.length) <|
  bif (v_18.getD i.toNat dNode).Dir then
   chk (inR i v_18.length) <|
   let row_1:=(dirs++([(v_18.getD i.toNat dNode).Path]))
   chk (lenOk row_1) <|
   s_l17Next_l6 v_18 q0 m (w64 (i+1)) files row_1 row
  else
  chk (inR i v_18.length) <|
  let row_2:=(files++([(v_18.getD i.toNat dNode).Path]))
  chk (lenOk row_2) <|
  s_l17Next_l6 v_18 q0 m (w64 (i+1)) row_2 dirs row
  else
  q0 files dirs all
def s_l17Next_l34 (v_15:List Bool) (q0:(List Int)->Option R):Nat->Int->(List Int)->Option R
 | 0,_,_=>none
 | m+1,u,dirty =>
  bif (decide (u<(v_15.length:Int))) then
  chk (inR u v_15.length) <|
  bif (v_15.getD u.toNat false) then
   let row:=(dirty++([u]))
   chk (lenOk row) <|
   s_l17Next_l34 v_15 q0 m (w64 (u+1)) row
  else
  s_l17Next_l34 v_15 q0 m (w64 (u+1)) dirty
  else
  q0 dirty
def s_l17Next (n:Nat) (w:World) (c:Cur) (k0:Event->Cur->Option R):Option R :=
 let lit:=([1,1,1,2,2,3,3,3,4,4,5,5,6,6,6,6,6,6,6,7]:List Int)
 s_l01PickInt lit c fun r lo =>
 s_l17Next_l6 w.Model (fun files dirs all =>
  s_l01Below (dirs.length:Int) ⟨c.b,lo.i,lo.h⟩ fun r_1 lo_1 =>
  chk (inR r_1 dirs.length) <|
  chk (sizeOk (dirs.getD r_1.toNat eS) (S [47])) <|
  s_l04Name ⟨c.b,lo_1.i,lo_1.h⟩ fun r_2 lo_2 =>
  chk (sizeOk ((dirs.getD r_1.toNat eS)++(S [47])) r_2) <|
  bif (r==1) then
  bif (r==1) then
   k0 ⟨r,(((dirs.getD r_1.toNat eS)++(S [47]))++r_2),eS,0,eS⟩ ⟨c.b,lo_2.i,lo_2.h⟩
  else
  bif (r==3) then
   bif (r==3) then
   bif (decide (0<(files.length:Int))) then
    s_l01Below (files.length:Int) ⟨c.b,lo_2.i,lo_2.h⟩ fun r_3 lo_3 =>
    chk (inR r_3 files.length) <|
    bif (r==5) then
    k0 ⟨r,(files.getD r_3.toNat eS),(((dirs.getD r_1.toNat eS)++(S [47]))++r_2),0,eS⟩ ⟨c.b,lo_3.i,lo_3.h⟩
    else
    let lit_1:=([eS,S [120],S [104,101,108,108,111],S [48,49,50,51,52,53,54,55,56,57,97,98,99,100,101,102]]:List ByteArray)
    s_l01Pick lit_1 ⟨c.b,lo_3.i,lo_3.h⟩ fun r_4 lo_4 =>
    s_l01Below 2 ⟨c.b,lo_4.i,lo_4.h⟩ fun r_5 lo_5 =>
    k0 ⟨r,(files.getD r_3.toNat eS),eS,r_5,r_4⟩ ⟨c.b,lo_5.i,lo_5.h⟩
   else
   bif (r==5) then
    k0 ⟨r,S [47,97],(((dirs.getD r_1.toNat eS)++(S [47]))++r_2),0,eS⟩ ⟨c.b,lo_2.i,lo_2.h⟩
   else
   let lit_2:=([eS,S [120],S [104,101,108,108,111],S [48,49,50,51,52,53,54,55,56,57,97,98,99,100,101,102]]:List ByteArray)
   s_l01Pick lit_2 ⟨c.b,lo_2.i,lo_2.h⟩ fun r_6 lo_6 =>
   s_l01Below 2 ⟨c.b,lo_6.i,lo_6.h⟩ fun r_7 lo_7 =>
   k0 ⟨r,S [47,97],eS,r_7,r_6⟩ ⟨c.b,lo_7.i,lo_7.h⟩
   else
   bif (r==4) then
   bif (decide (0<(all.length:Int))) then
    s_l01Below (all.length:Int) ⟨c.b,lo_2.i,lo_2.h⟩ fun r_8 lo_8 =>
    chk (inR r_8 all.length) <|
    k0 ⟨r,(all.getD r_8.toNat eS),eS,0,eS⟩ ⟨c.b,lo_8.i,lo_8.h⟩
   else
   k0 ⟨r,S [47,98],eS,0,eS⟩ ⟨c.b,lo_2.i,lo_2.h⟩
   else
   bif (r==6) then
   s_l01Below 21 ⟨c.b,lo_2.i,lo_2.h⟩ fun r_9 lo_9 =>
   s_l17Next_l34 w.Fs.Mem.Dirty (fun dirty =>
    s_l01Once 6 ⟨c.b,lo_9.i,lo_9.h⟩ fun r_10 lo_10 =>
    let z:=bif (decide (0<(dirty.length:Int))) then r_10 else false
    let z_1:=bif (decide (0<(dirty.length:Int))) then lo_10.i else lo_9.i
    let z_2:=bif (decide (0<(dirty.length:Int))) then lo_10.h else lo_9.h
    bif (decide (0<(dirty.length:Int)))&&(!z) then
    s_l01Below (dirty.length:Int) ⟨c.b,z_1,z_2⟩ fun r_11 lo_11 =>
    chk (inR r_11 dirty.length) <|
    k0 ⟨r,eS,eS,(dirty.getD r_11.toNat 0),eS⟩ ⟨c.b,lo_11.i,lo_11.h⟩
    else
    k0 ⟨r,eS,eS,r_9,eS⟩ ⟨c.b,z_1,z_2⟩) n 0 ([])
   else
   k0 ⟨r,eS,eS,0,eS⟩ ⟨c.b,lo_2.i,lo_2.h⟩
  else
  bif (r==5) then
   bif (decide (0<(files.length:Int))) then
   s_l01Below (files.length:Int) ⟨c.b,lo_2.i,lo_2.h⟩ fun r_12 lo_12 =>
   chk (inR r_12 files.length) <|
   bif (r==5) then
    k0 ⟨r,(files.getD r_12.toNat eS),(((dirs.getD r_1.toNat eS)++(S [47]))++r_2),0,eS⟩ ⟨c.b,lo_12.i,lo_12.h⟩
   else
   let lit_3:=([eS,S [120],S [104,101,108,108,111],S [48,49,50,51,52,53,54,55,56,57,97,98,99,100,101,102]]:List ByteArray)
   s_l01Pick lit_3 ⟨c.b,lo_12.i,lo_12.h⟩ fun r_13 lo_13 =>
   s_l01Below 2 ⟨c.b,lo_13.i,lo_13.h⟩ fun r_14 lo_14 =>
   k0 ⟨r,(files.getD r_12.toNat eS),eS,r_14,r_13⟩ ⟨c.b,lo_14.i,lo_14.h⟩
   else
   bif (r==5) then
   k0 ⟨r,S [47,97],(((dirs.getD r_1.toNat eS)++(S [47]))++r_2),0,eS⟩ ⟨c.b,lo_2.i,lo_2.h⟩
   else
   let lit_4:=([eS,S [120],S [104,101,108,108,111],S [48,49,50,51,52,53,54,55,56,57,97,98,99,100,101,102]]:List ByteArray)
   s_l01Pick lit_4 ⟨c.b,lo_2.i,lo_2.h⟩ fun r_15 lo_15 =>
   s_l01Below 2 ⟨c.b,lo_15.i,lo_15.h⟩ fun r_16 lo_16 =>
   k0 ⟨r,S [47,97],eS,r_16,r_15⟩ ⟨c.b,lo_16.i,lo_16.h⟩
  else
  bif (r==4) then
   bif (decide (0<(all.length:Int))) then
   s_l01Below (all.length:Int) ⟨c.b,lo_2.i,lo_2.h⟩ fun r_17 lo_17 =>
   chk (inR r_17 all.length) <|
   k0 ⟨r,(all.getD r_17.toNat eS),eS,0,eS⟩ ⟨c.b,lo_17.i,lo_17.h⟩
   else
   k0 ⟨r,S [47,98],eS,0,eS⟩ ⟨c.b,lo_2.i,lo_2.h⟩
  else
  bif (r==6) then
   s_l01Below 21 ⟨c.b,lo_2.i,lo_2.h⟩ fun r_18 lo_18 =>
   s_l17Next_l34 w.Fs.Mem.Dirty (fun dirty_1 =>
   s_l01Once 6 ⟨c.b,lo_18.i,lo_18.h⟩ fun r_19 lo_19 =>
   let z_3:=bif (decide (0<(dirty_1.length:Int))) then r_19 else false
   let z_4:=bif (decide (0<(dirty_1.length:Int))) then lo_19.i else lo_18.i
   let z_5:=bif (decide (0<(dirty_1.length:Int))) then lo_19.h else lo_18.h
   bif (decide (0<(dirty_1.length:Int)))&&(!z_3) then
    s_l01Below (dirty_1.length:Int) ⟨c.b,z_4,z_5⟩ fun r_20 lo_20 =>
    chk (inR r_20 dirty_1.length) <|
    k0 ⟨r,eS,eS,(dirty_1.getD r_20.toNat 0),eS⟩ ⟨c.b,lo_20.i,lo_20.h⟩
   else
   k0 ⟨r,eS,eS,r_18,eS⟩ ⟨c.b,z_4,z_5⟩) n 0 ([])
  else
  k0 ⟨r,eS,eS,0,eS⟩ ⟨c.b,lo_2.i,lo_2.h⟩
  else
  bif (r==2) then
  k0 ⟨r,(((dirs.getD r_1.toNat eS)++(S [47]))++r_2),eS,0,eS⟩ ⟨c.b,lo_2.i,lo_2.h⟩
  else
  bif (r==3) then
  bif (r==3) then
   bif (decide (0<(files.length:Int))) then
   s_l01Below (files.length:Int) ⟨c.b,lo_2.i,lo_2.h⟩ fun r_21 lo_21 =>
   chk (inR r_21 files.length) <|
   bif (r==5) then
    k0 ⟨r,(files.getD r_21.toNat eS),(((dirs.getD r_1.toNat eS)++(S [47]))++r_2),0,eS⟩ ⟨c.b,lo_21.i,lo_21.h⟩
   else
   let lit_5:=([eS,S [120],S [104,101,108,108,111],S [48,49,50,51,52,53,54,55,56,57,97,98,99,100,101,102]]:List ByteArray)
   s_l01Pick lit_5 ⟨c.b,lo_21.i,lo_21.h⟩ fun r_22 lo_22 =>
   s_l01Below 2 ⟨c.b,lo_22.i,lo_22.h⟩ fun r_23 lo_23 =>
   k0 ⟨r,(files.getD r_21.toNat eS),eS,r_23,r_22⟩ ⟨c.b,lo_23.i,lo_23.h⟩
   else
   bif (r==5) then
   k0 ⟨r,S [47,97],(((dirs.getD r_1.toNat eS)++(S [47]))++r_2),0,eS⟩ ⟨c.b,lo_2.i,lo_2.h⟩
   else
   let lit_6:=([eS,S [120],S [104,101,108,108,111],S [48,49,50,51,52,53,54,55,56,57,97,98,99,100,101,102]]:List ByteArray)
   s_l01Pick lit_6 ⟨c.b,lo_2.i,lo_2.h⟩ fun r_24 lo_24 =>
   s_l01Below 2 ⟨c.b,lo_24.i,lo_24.h⟩ fun r_25 lo_25 =>
   k0 ⟨r,S [47,97],eS,r_25,r_24⟩ ⟨c.b,lo_25.i,lo_25.h⟩
  else
  bif (r==4) then
   bif (decide (0<(all.length:Int))) then
   s_l01Below (all.length:Int) ⟨c.b,lo_2.i,lo_2.h⟩ fun r_26 lo_26 =>
   chk (inR r_26 all.length) <|
   k0 ⟨r,(all.getD r_26.toNat eS),eS,0,eS⟩ ⟨c.b,lo_26.i,lo_26.h⟩
   else
   k0 ⟨r,S [47,98],eS,0,eS⟩ ⟨c.b,lo_2.i,lo_2.h⟩
  else
  bif (r==6) then
   s_l01Below 21 ⟨c.b,lo_2.i,lo_2.h⟩ fun r_27 lo_27 =>
   s_l17Next_l34 w.Fs.Mem.Dirty (fun dirty_2 =>
   s_l01Once 6 ⟨c.b,lo_27.i,lo_27.h⟩ fun r_28 lo_28 =>
   let z_6:=bif (decide (0<(dirty_2.length:Int))) then r_28 else false
   let z_7:=bif (decide (0<(dirty_2.length:Int))) then lo_28.i else lo_27.i
   let z_8:=bif (decide (0<(dirty_2.length:Int))) then lo_28.h else lo_27.h
   bif (decide (0<(dirty_2.length:Int)))&&(!z_6) then
    s_l01Below (dirty_2.length:Int) ⟨c.b,z_7,z_8⟩ fun r_29 lo_29 =>
    chk (inR r_29 dirty_2.length) <|
    k0 ⟨r,eS,eS,(dirty_2.getD r_29.toNat 0),eS⟩ ⟨c.b,lo_29.i,lo_29.h⟩
   else
   k0 ⟨r,eS,eS,r_27,eS⟩ ⟨c.b,z_7,z_8⟩) n 0 ([])
  else
  k0 ⟨r,eS,eS,0,eS⟩ ⟨c.b,lo_2.i,lo_2.h⟩
  else
  bif (r==5) then
  bif (decide (0<(files.length:Int))) then
   s_l01Below (files.length:Int) ⟨c.b,lo_2.i,lo_2.h⟩ fun r_30 lo_30 =>
   chk (inR r_30 files.length) <|
   bif (r==5) then
   k0 ⟨r,(files.getD r_30.toNat eS),(((dirs.getD r_1.toNat eS)++(S [47]))++r_2),0,eS⟩ ⟨c.b,lo_30.i,lo_30.h⟩
   else
   let lit_7:=([eS,S [120],S [104,101,108,108,111],S [48,49,50,51,52,53,54,55,56,57,97,98,99,100,101,102]]:List ByteArray)
   s_l01Pick lit_7 ⟨c.b,lo_30.i,lo_30.h⟩ fun r_31 lo_31 =>
   s_l01Below 2 ⟨c.b,lo_31.i,lo_31.h⟩ fun r_32 lo_32 =>
   k0 ⟨r,(files.getD r_30.toNat eS),eS,r_32,r_31⟩ ⟨c.b,lo_32.i,lo_32.h⟩
  else
  bif (r==5) then
   k0 ⟨r,S [47,97],(((dirs.getD r_1.toNat eS)++(S [47]))++r_2),0,eS⟩ ⟨c.b,lo_2.i,lo_2.h⟩
  else
  let lit_8:=([eS,S [120],S [104,101,108,108,111],S [48,49,50,51,52,53,54,55,56,57,97,98,99,100,101,102]]:List ByteArray)
  s_l01Pick lit_8 ⟨c.b,lo_2.i,lo_2.h⟩ fun r_33 lo_33 =>
  s_l01Below 2 ⟨c.b,lo_33.i,lo_33.h⟩ fun r_34 lo_34 =>
  k0 ⟨r,S [47,97],eS,r_34,r_33⟩ ⟨c.b,lo_34.i,lo_34.h⟩
  else
  bif (r==4) then
  bif (decide (0<(all.length:Int))) then
   s_l01Below (all.length:Int) ⟨c.b,lo_2.i,lo_2.h⟩ fun r_35 lo_35 =>
   chk (inR r_35 all.length) <|
   k0 ⟨r,(all.getD r_35.toNat eS),eS,0,eS⟩ ⟨c.b,lo_35.i,lo_35.h⟩
  else
  k0 ⟨r,S [47,98],eS,0,eS⟩ ⟨c.b,lo_2.i,lo_2.h⟩
  else
  bif (r==6) then
  s_l01Below 21 ⟨c.b,lo_2.i,lo_2.h⟩ fun r_36 lo_36 =>
  s_l17Next_l34 w.Fs.Mem.Dirty (fun dirty_3 =>
   s_l01Once 6 ⟨c.b,lo_36.i,lo_36.h⟩ fun r_37 lo_37 =>
   let z_9:=bif (decide (0<(dirty_3.length:Int))) then r_37 else false
   let z_10:=bif (decide (0<(dirty_3.length:Int))) then lo_37.i else lo_36.i
   let z_11:=bif (decide (0<(dirty_3.length:Int))) then lo_37.h else lo_36.h
   bif (decide (0<(dirty_3.length:Int)))&&(!z_9) then
   s_l01Below (dirty_3.length:Int) ⟨c.b,z_10,z_11⟩ fun r_38 lo_38 =>
   chk (inR r_38 dirty_3.length) <|
   k0 ⟨r,eS,eS,(dirty_3.getD r_38.toNat 0),eS⟩ ⟨c.b,lo_38.i,lo_38.h⟩
   else
   k0 ⟨r,eS,eS,r_36,eS⟩ ⟨c.b,z_10,z_11⟩) n 0 ([])
  else
  k0 ⟨r,eS,eS,0,eS⟩ ⟨c.b,lo_2.i,lo_2.h⟩) n 0 ([]) ([eS]) ([])
def s_l08Copy_l3 (v_8:List Dep) (q0:(List Dep)->Option R):Nat->Int->(List Dep)->Option R
 | 0,_,_=>none
 | m+1,i,v_20 =>
  bif (decide (i<(v_8.length:Int))) then
  chk (inR i v_8.length) <|
  let el:=(v_8.getD i.toNat dDep)
  let row:=(([])++((v_8.getD i.toNat dDep).Blocks))
  chk (lenOk row) <|
  let row_1:=(v_20++([⟨el.Id,el.Kind,el.Ino,el.Ptr,el.Block,el.Slot,el.Name,el.Bits,el.Other,el.After,row⟩]))
  chk (lenOk row_1) <|
  s_l08Copy_l3 v_8 q0 m (w64 (i+1)) row_1
  else
  q0 v_20
def s_l08Copy (n:Nat) (xm:Mem) (k0:Mem->Option R):Option R :=
 s_l07Copy n xm.Disk fun d =>
 let row:=(([])++xm.Dirty)
 chk (lenOk row) <|
 s_l08Copy_l3 xm.Deps (fun v =>
  k0 ⟨d,row,v,xm.Next⟩) n 0 ([])
def s_SplitPath_l8 (n:Nat) (p:ByteArray) (q0:Bool->(List ByteArray)->Option R) (q1:(List ByteArray)->Option R):Nat->Int->Int->(List ByteArray)->Option R
 | 0,_,_,_=>none
 | m+1,begin,i,out =>
  bif (decide (i<=(p.size:Int))) then
  chk (!(decide (i<(p.size:Int)))||(inR i p.size)) <|
  bif (decide (i<(p.size:Int)))&&(!((bt p i.toNat:Int)==47)) then
   s_SplitPath_l8 n p q0 q1 m begin (w64 (i+1)) out
  else
  chk (cutOk begin i p.size) <|
  s_NameOk n (p.extract begin.toNat i.toNat) fun r =>
  bif !r then
   q0 false ([])
  else
  chk (cutOk begin i p.size) <|
  let row:=(out++([(p.extract begin.toNat i.toNat)]))
  chk (lenOk row) <|
  s_SplitPath_l8 n p q0 q1 m (w64 (i+1)) (w64 (i+1)) row
  else
  q1 out
def s_SplitPath (n:Nat) (p:ByteArray) (k0:(List ByteArray)->Bool->Option R):Option R :=
 chk (!(!((p.size:Int)==0))||(inR 0 p.size)) <|
 bif ((p.size:Int)==0)||(!((bt p 0:Int)==47)) then
  k0 ([]) false
 else
 bif (p==(S [47])) then
  k0 ([]) true
 else
 s_SplitPath_l8 n p (fun x x_1 =>
  k0 x_1 x) (fun out =>
  bif (decide (4<(out.length:Int))) then
  k0 ([]) false
  else
  k0 out true) n 1 1 ([])
def s_l12Split_l6 (list:List ByteArray) (q0:ByteArray->Option R):Nat->ByteArray->Int->Option R
 | 0,_,_=>none
 | m+1,s,i =>
  bif (decide ((w64 (i+1))<(list.length:Int))) then
  chk (sizeOk s (S [47])) <|
  chk (inR i list.length) <|
  chk (sizeOk (s++(S [47])) (list.getD i.toNat eS)) <|
  s_l12Split_l6 list q0 m ((s++(S [47]))++(list.getD i.toNat eS)) (w64 (i+1))
  else
  q0 s
def s_l12Split (n:Nat) (p:ByteArray) (k0:ByteArray->ByteArray->Bool->Option R):Option R :=
 s_SplitPath n p fun r r_1 =>
 bif (!r_1)||((r.length:Int)==0) then
  k0 eS eS false
 else
 s_l12Split_l6 r (fun s =>
  bif (s==eS) then
  chk (inR (w64 ((r.length:Int)-1)) r.length) <|
  k0 (S [47]) (r.getD ((w64 ((r.length:Int)-1)).toNat) eS) true
  else
  chk (inR (w64 ((r.length:Int)-1)) r.length) <|
  k0 s (r.getD ((w64 ((r.length:Int)-1)).toNat) eS) true) n eS 0
def s_l08Dep_l5 (v_17:List Int) (q0:Bool->Option R) (q1:Option R):Nat->Int->Option R
 | 0,_=>none
 | m+1,xk =>
  bif (decide (xk<(v_17.length:Int))) then
  chk (inR xk v_17.length) <|
  s_l01In (v_17.getD xk.toNat 0) 1 16 fun r =>
  bif !r then
   q0 false
  else
  s_l08Dep_l5 v_17 q0 q1 m (w64 (xk+1))
  else
  q1
def s_l08Dep_l10 (i:Int) (v_1:Int) (v_16:List Dep) (q0:Bool->Option R) (q1:Option R):Nat->Int->Option R
 | 0,_=>none
 | m+1,xk =>
  bif (decide (xk<i)) then
  chk (inR xk v_16.length) <|
  bif (((v_16.getD xk.toNat dDep).Id)==v_1) then
   q0 false
  else
  s_l08Dep_l10 i v_1 v_16 q0 q1 m (w64 (xk+1))
  else
  q1
def s_l08Dep (n:Nat) (xm:Mem) (i:Int) (k0:Bool->Option R):Option R :=
 chk (inR i xm.Deps.length) <|
 let el:=(xm.Deps.getD i.toNat dDep)
 s_l01In el.Id 1 (w64 (xm.Next-1)) fun r =>
 s_l01In el.Kind 1 6 fun r_1 =>
 let z:=bif !(!r) then r_1 else false
 s_l01In el.Ino 1 8 fun r_2 =>
 let z_1:=bif !((!r)||(!z)) then r_2 else false
 s_l01In el.Ptr 0 1 fun r_3 =>
 let z_2:=bif !(((!r)||(!z))||(!z_1)) then r_3 else false
 s_l01In el.Block 0 16 fun r_4 =>
 let z_3:=bif !((((!r)||(!z))||(!z_1))||(!z_2)) then r_4 else false
 s_l01In el.Slot 0 3 fun r_5 =>
 let z_4:=bif !(((((!r)||(!z))||(!z_1))||(!z_2))||(!z_3)) then r_5 else false
 s_l01In el.After 0 (w64 (xm.Next-1)) fun r_6 =>
 let z_5:=bif !((((((!r)||(!z))||(!z_1))||(!z_2))||(!z_3))||(!z_4)) then r_6 else false
 bif ((((((!r)||(!z))||(!z_1))||(!z_2))||(!z_3))||(!z_4))||(!z_5) then
  k0 false
 else
 let v:=(xm.Deps.getD i.toNat dDep).Blocks
 s_l08Dep_l5 v (fun x =>
  k0 x) (
  s_l08Dep_l10 i el.Id xm.Deps (fun x_1 =>
  k0 x_1) (
  bif (el.Kind==1) then
   bif (el.Kind==1) then
   chk (!(decide (0<el.Block))||(inR (w64 (el.Ino-1)) xm.Disk.Inodes.length)) <|
   chk (!(decide (0<el.Block))||(inR el.Ptr (((xm.Disk.Inodes.getD ((w64 (el.Ino-1)).toNat) dInode).Ptrs).length))) <|
   k0 ((decide (0<el.Block))&&((((xm.Disk.Inodes.getD ((w64 (el.Ino-1)).toNat) dInode).Ptrs).getD el.Ptr.toNat 0)==el.Block))
   else
   bif (el.Kind==2) then
   bif (el.Kind==2) then
    chk (!(decide (0<el.Block))||(inR (w64 (el.Block-1)) xm.Disk.Blocks.length)) <|
    chk (!((decide (0<el.Block))&&((xm.Disk.Blocks.getD ((w64 (el.Block-1)).toNat) dBlock).Dir))||(inR (w64 (el.Block-1)) xm.Disk.Blocks.length)) <|
    chk (!((decide (0<el.Block))&&((xm.Disk.Blocks.getD ((w64 (el.Block-1)).toNat) dBlock).Dir))||(inR el.Slot (((xm.Disk.Blocks.getD ((w64 (el.Block-1)).toNat) dBlock).Slots).length))) <|
    k0 (((decide (0<el.Block))&&((xm.Disk.Blocks.getD ((w64 (el.Block-1)).toNat) dBlock).Dir))&&(((((xm.Disk.Blocks.getD ((w64 (el.Block-1)).toNat) dBlock).Slots).getD el.Slot.toNat dSlot).Ino)==el.Ino))
   else
   bif (el.Kind==4) then
    chk (!(decide (0<el.Block))||(inR (w64 (el.Block-1)) xm.Disk.Blocks.length)) <|
    s_NameOk n el.Name fun r_7 =>
    let z_6:=bif (decide (0<el.Block))&&((xm.Disk.Blocks.getD ((w64 (el.Block-1)).toNat) dBlock).Dir) then r_7 else false
    k0 (((decide (0<el.Block))&&((xm.Disk.Blocks.getD ((w64 (el.Block-1)).toNat) dBlock).Dir))&&z_6)
   else
   k0 true
   else
   bif (el.Kind==3) then
   chk (!(decide (0<el.Block))||(inR (w64 (el.Block-1)) xm.Disk.Blocks.length)) <|
   chk (!((decide (0<el.Block))&&((xm.Disk.Blocks.getD ((w64 (el.Block-1)).toNat) dBlock).Dir))||(inR (w64 (el.Block-1)) xm.Disk.Blocks.length)) <|
   chk (!((decide (0<el.Block))&&((xm.Disk.Blocks.getD ((w64 (el.Block-1)).toNat) dBlock).Dir))||(inR el.Slot (((xm.Disk.Blocks.getD ((w64 (el.Block-1)).toNat) dBlock).Slots).length))) <|
   k0 (((decide (0<el.Block))&&((xm.Disk.Blocks.getD ((w64 (el.Block-1)).toNat) dBlock).Dir))&&(((((xm.Disk.Blocks.getD ((w64 (el.Block-1)).toNat) dBlock).Slots).getD el.Slot.toNat dSlot).Ino)==el.Ino))
   else
   bif (el.Kind==4) then
   chk (!(decide (0<el.Block))||(inR (w64 (el.Block-1)) xm.Disk.Blocks.length)) <|
   s_NameOk n el.Name fun r_8 =>
   let z_7:=bif (decide (0<el.Block))&&((xm.Disk.Blocks.getD ((w64 (el.Block-1)).toNat) dBlock).Dir) then r_8 else false
   k0 (((decide (0<el.Block))&&((xm.Disk.Blocks.getD ((w64 (el.Block-1)).toNat) dBlock).Dir))&&z_7)
   else
   k0 true
  else
  bif (el.Kind==6) then
   chk (!(decide (0<el.Block))||(inR (w64 (el.Ino-1)) xm.Disk.Inodes.length)) <|
   chk (!(decide (0<el.Block))||(inR el.Ptr (((xm.Disk.Inodes.getD ((w64 (el.Ino-1)).toNat) dInode).Ptrs).length))) <|
   k0 ((decide (0<el.Block))&&((((xm.Disk.Inodes.getD ((w64 (el.Ino-1)).toNat) dInode).Ptrs).getD el.Ptr.toNat 0)==el.Block))
  else
  bif (el.Kind==2) then
   bif (el.Kind==2) then
   chk (!(decide (0<el.Block))||(inR (w64 (el.Block-1)) xm.Disk.Blocks.length)) <|
   chk (!((decide (0<el.Block))&&((xm.Disk.Blocks.getD ((w64 (el.Block-1)).toNat) dBlock).Dir))||(inR (w64 (el.Block-1)) xm.Disk.Blocks.length)) <|
   chk (!((decide (0<el.Block))&&((xm.Disk.Blocks.getD ((w64 (el.Block-1)).toNat) dBlock).Dir))||(inR el.Slot (((xm.Disk.Blocks.getD ((w64 (el.Block-1)).toNat) dBlock).Slots).length))) <|
   k0 (((decide (0<el.Block))&&((xm.Disk.Blocks.getD ((w64 (el.Block-1)).toNat) dBlock).Dir))&&(((((xm.Disk.Blocks.getD ((w64 (el.Block-1)).toNat) dBlock).Slots).getD el.Slot.toNat dSlot).Ino)==el.Ino))
   else
   bif (el.Kind==4) then
   chk (!(decide (0<el.Block))||(inR (w64 (el.Block-1)) xm.Disk.Blocks.length)) <|
   s_NameOk n el.Name fun r_9 =>
   let z_8:=bif (decide (0<el.Block))&&((xm.Disk.Blocks.getD ((w64 (el.Block-1)).toNat) dBlock).Dir) then r_9 else false
   k0 (((decide (0<el.Block))&&((xm.Disk.Blocks.getD ((w64 (el.Block-1)).toNat) dBlock).Dir))&&z_8)
   else
   k0 true
  else
  bif (el.Kind==3) then
   chk (!(decide (0<el.Block))||(inR (w64 (el.Block-1)) xm.Disk.Blocks.length)) <|
   chk (!((decide (0<el.Block))&&((xm.Disk.Blocks.getD ((w64 (el.Block-1)).toNat) dBlock).Dir))||(inR (w64 (el.Block-1)) xm.Disk.Blocks.length)) <|
   chk (!((decide (0<el.Block))&&((xm.Disk.Blocks.getD ((w64 (el.Block-1)).toNat) dBlock).Dir))||(inR el.Slot (((xm.Disk.Blocks.getD ((w64 (el.Block-1)).toNat) dBlock).Slots).length))) <|
   k0 (((decide (0<el.Block))&&((xm.Disk.Blocks.getD ((w64 (el.Block-1)).toNat) dBlock).Dir))&&(((((xm.Disk.Blocks.getD ((w64 (el.Block-1)).toNat) dBlock).Slots).getD el.Slot.toNat dSlot).Ino)==el.Ino))
  else
  bif (el.Kind==4) then
   chk (!(decide (0<el.Block))||(inR (w64 (el.Block-1)) xm.Disk.Blocks.length)) <|
   s_NameOk n el.Name fun r_10 =>
   let z_9:=bif (decide (0<el.Block))&&((xm.Disk.Blocks.getD ((w64 (el.Block-1)).toNat) dBlock).Dir) then r_10 else false
   k0 (((decide (0<el.Block))&&((xm.Disk.Blocks.getD ((w64 (el.Block-1)).toNat) dBlock).Dir))&&z_9)
  else
  k0 true) n 0) n 0
def s_MemOk_l4 (n:Nat) (v:Int) (v_1:List Bool) (v_2:List Bool) (v_3:List Inode) (v_4:List Block) (v_5:List Bool) (v_6:List Dep) (q0:Bool->Option R) (q1:Option R):Nat->Int->Option R
 | 0,_=>none
 | m+1,i =>
  bif (decide (i<(v_6.length:Int))) then
  s_l08Dep n ⟨⟨⟨v_1,v_2⟩,v_3,v_4⟩,v_5,v_6,v⟩ i fun r =>
  bif !r then
   q0 false
  else
  s_MemOk_l4 n v v_1 v_2 v_3 v_4 v_5 v_6 q0 q1 m (w64 (i+1))
  else
  q1
def s_MemOk (n:Nat) (xm:Mem) (k0:Bool->Option R):Option R :=
 s_DiskOk n xm.Disk fun r =>
 s_l01In xm.Next 1 100000 fun r_1 =>
 let z:=bif !(((!r)||(!((xm.Dirty.length:Int)==21)))||(decide (40<(xm.Deps.length:Int)))) then r_1 else false
 bif (((!r)||(!((xm.Dirty.length:Int)==21)))||(decide (40<(xm.Deps.length:Int))))||(!z) then
  k0 false
 else
 s_MemOk_l4 n xm.Next xm.Disk.Bits.Blocks xm.Disk.Bits.Inos xm.Disk.Inodes xm.Disk.Blocks xm.Dirty xm.Deps (fun x =>
  k0 x) (
  k0 true) n 0
def s_l11Block (d:Disk) (p:Int) (k0:Block->Bool->Option R):Option R :=
 s_l01In p 1 (d.Blocks.length:Int) fun r =>
 bif !r then
  k0 ⟨false,[],eS⟩ false
 else
 chk (inR (w64 (p-1)) d.Blocks.length) <|
 let el:=(d.Blocks.getD ((w64 (p-1)).toNat) dBlock)
 k0 el true
def s_SlotOf_l2 (name:ByteArray) (v_2:List Slot) (q0:Int->Option R) (q1:Option R):Nat->Int->Option R
 | 0,_=>none
 | m+1,i =>
  bif (decide (i<(v_2.length:Int))) then
  chk (!(!(name==eS))||(inR i v_2.length)) <|
  bif (!(name==eS))&&(((v_2.getD i.toNat dSlot).Name)==name) then
   q0 i
  else
  s_SlotOf_l2 name v_2 q0 q1 m (w64 (i+1))
  else
  q1
def s_SlotOf (n:Nat) (b:Block) (name:ByteArray) (k0:Int->Option R):Option R :=
 s_SlotOf_l2 name b.Slots (fun x =>
  k0 x) (
  k0 (-1)) n 0
def s_l11Find_l5 (n:Nat) (name:ByteArray) (v_2:List Bool) (v_3:List Bool) (v_4:List Inode) (v_5:List Block) (v_6:List Int) (q0:Int->Int->Int->Option R) (q1:Option R):Nat->Int->Option R
 | 0,_=>none
 | m+1,xk =>
  bif (decide (xk<(v_6.length:Int))) then
  chk (inR xk v_6.length) <|
  s_l11Block ⟨⟨v_2,v_3⟩,v_4,v_5⟩ (v_6.getD xk.toNat 0) fun b r =>
  s_SlotOf n b name fun r_1 =>
  bif (r&&b.Dir)&&(decide (0<=r_1)) then
   chk (inR xk v_6.length) <|
   chk (inR r_1 b.Slots.length) <|
   q0 (v_6.getD xk.toNat 0) r_1 ((b.Slots.getD r_1.toNat dSlot).Ino)
  else
  s_l11Find_l5 n name v_2 v_3 v_4 v_5 v_6 q0 q1 m (w64 (xk+1))
  else
  q1
def s_l11Find (n:Nat) (d:Disk) (i:Int) (name:ByteArray) (k0:Int->Int->Int->Option R):Option R :=
 s_l01In i 1 (d.Inodes.length:Int) fun r =>
 chk (!(!(!r))||(inR (w64 (i-1)) d.Inodes.length)) <|
 bif (!r)||(!(((d.Inodes.getD ((w64 (i-1)).toNat) dInode).Kind)==2)) then
  k0 0 0 0
 else
 chk (inR (w64 (i-1)) d.Inodes.length) <|
 let el:=(d.Inodes.getD ((w64 (i-1)).toNat) dInode)
 s_l11Find_l5 n name d.Bits.Blocks d.Bits.Inos d.Inodes d.Blocks ((d.Inodes.getD ((w64 (i-1)).toNat) dInode).Ptrs) (fun x x_1 x_2 =>
  k0 x x_1 x_2) (
  k0 0 0 0) n 0
def s_WalkPath_l6 (n:Nat) (list:List ByteArray) (v:List Bool) (v_1:List Bool) (v_2:List Inode) (v_3:List Block) (q0:Int->Option R) (q1:Int->Option R):Nat->Int->Int->Option R
 | 0,_,_=>none
 | m+1,i,xk =>
  bif (decide (xk<(list.length:Int))) then
  chk (inR xk list.length) <|
  s_l11Find n ⟨⟨v,v_1⟩,v_2,v_3⟩ i (list.getD xk.toNat eS) fun r r_1 r_2 =>
  s_l01In r_2 1 (v_2.length:Int) fun r_3 =>
  bif !r_3 then
   q0 0
  else
  s_WalkPath_l6 n list v v_1 v_2 v_3 q0 q1 m r_2 (w64 (xk+1))
  else
  q1 i
def s_WalkPath (n:Nat) (d:Disk) (p:ByteArray) (k0:Int->Option R):Option R :=
 s_SplitPath n p fun r r_1 =>
 bif !r_1 then
  k0 0
 else
 s_WalkPath_l6 n r d.Bits.Blocks d.Bits.Inos d.Inodes d.Blocks (fun x =>
  k0 x) (fun i =>
  k0 i) n 1 0
def s_l10Has_l2 (x:Int) (list:List Int) (q0:Bool->Option R) (q1:Option R):Nat->Int->Option R
 | 0,_=>none
 | m+1,i =>
  bif (decide (i<(list.length:Int))) then
  chk (inR i list.length) <|
  bif ((list.getD i.toNat 0)==x) then
   q0 true
  else
  s_l10Has_l2 x list q0 q1 m (w64 (i+1))
  else
  q1
def s_l10Has (n:Nat) (list:List Int) (x:Int) (k0:Bool->Option R):Option R :=
 s_l10Has_l2 x list (fun x_1 =>
  k0 x_1) (
  k0 false) n 0
def s_l12Waits_l2 (n:Nat) (dir:Int) (name:ByteArray) (v_3:List Inode) (v_6:List Dep) (q0:Bool->Option R) (q1:Option R):Nat->Int->Option R
 | 0,_=>none
 | m+1,xk =>
  bif (decide (xk<(v_6.length:Int))) then
  chk (inR xk v_6.length) <|
  let el:=(v_6.getD xk.toNat dDep)
  chk (!(((el.Kind==4)&&(decide (0<el.After)))&&(el.Name==name))||(inR (w64 (dir-1)) v_3.length)) <|
  s_l10Has n ((v_3.getD ((w64 (dir-1)).toNat) dInode).Ptrs) el.Block fun r =>
  let z:=bif ((el.Kind==4)&&(decide (0<el.After)))&&(el.Name==name) then r else false
  bif (((el.Kind==4)&&(decide (0<el.After)))&&(el.Name==name))&&z then
   q0 true
  else
  s_l12Waits_l2 n dir name v_3 v_6 q0 q1 m (w64 (xk+1))
  else
  q1
def s_l12Waits (n:Nat) (xm:Mem) (dir:Int) (name:ByteArray) (k0:Bool->Option R):Option R :=
 s_l12Waits_l2 n dir name xm.Disk.Inodes xm.Deps (fun x =>
  k0 x) (
  k0 false) n 0
def s_FirstFree_l2 (list:List Bool) (q0:Int->Option R) (q1:Option R):Nat->Int->Option R
 | 0,_=>none
 | m+1,i =>
  bif (decide (i<(list.length:Int))) then
  chk (inR i list.length) <|
  bif !(list.getD i.toNat false) then
   q0 (w64 (i+1))
  else
  s_FirstFree_l2 list q0 q1 m (w64 (i+1))
  else
  q1
def s_FirstFree (n:Nat) (list:List Bool) (k0:Int->Option R):Option R :=
 s_FirstFree_l2 list (fun x =>
  k0 x) (
  k0 0) n 0
def s_l08Mark (u:Int) (xm:Mem) (k0:Mem->Option R):Option R :=
 bif (decide (0<=u))&&(decide (u<(xm.Dirty.length:Int))) then
  chk (inR u xm.Dirty.length) <|
  let row:=(xm.Dirty.set u.toNat true)
  k0 ⟨xm.Disk,row,xm.Deps,xm.Next⟩
 else
 k0 xm
def s_TakeIno (n:Nat) (xm:Mem) (k0:Mem->Int->Option R):Option R :=
 s_l08Copy n xm fun xm_1 =>
 s_FirstFree n xm.Disk.Bits.Inos fun r =>
 bif (r==0) then
  k0 xm_1 0
 else
 chk (inR (w64 (r-1)) xm_1.Disk.Bits.Inos.length) <|
 let row:=(xm_1.Disk.Bits.Inos.set ((w64 (r-1)).toNat) true)
 s_l08Mark 0 ⟨⟨⟨xm_1.Disk.Bits.Blocks,row⟩,xm_1.Disk.Inodes,xm_1.Disk.Blocks⟩,xm_1.Dirty,xm_1.Deps,xm_1.Next⟩ fun mo =>
 k0 ⟨⟨⟨xm_1.Disk.Bits.Blocks,row⟩,xm_1.Disk.Inodes,xm_1.Disk.Blocks⟩,mo.Dirty,xm_1.Deps,mo.Next⟩ r
def s_l12Room (xm:Mem) (k0:Bool->Mem->Option R):Option R :=
 k0 ((decide ((xm.Deps.length:Int)<=32))&&(decide (xm.Next<=99000))) xm
def s_UnitOfIno (i:Int) (k0:Int->Option R):Option R :=
 s_l01In i 1 8 fun r =>
 bif !r then
  k0 (-1)
 else
 k0 (w64 (1+(w64 ((w64 (i-1)).tdiv 2))))
def s_l11BlockA (d:Disk) (p:Int) (k0:Block->Bool->Option R) (k1:Block->Nat->Bool->Option R):Option R :=
 s_l01In p 1 (d.Blocks.length:Int) fun r =>
 bif !r then
  k0 ⟨false,[],eS⟩ false
 else
 chk (inR (w64 (p-1)) d.Blocks.length) <|
 let el:=(d.Blocks.getD ((w64 (p-1)).toNat) dBlock)
 k1 ⟨el.Dir,[],el.Text⟩ ((w64 (p-1)).toNat) true
def s_l08Name (d:Dep) (k0:Bool->Option R):Option R :=
 k0 (((d.Kind==2)||(d.Kind==3))||(d.Kind==4))
def s_DepAt_l2 (block:Int) (slot:Int) (v_6:List Dep) (q0:Int->Option R) (q1:Option R):Nat->Int->Option R
 | 0,_=>none
 | m+1,i =>
  bif (decide (i<(v_6.length:Int))) then
  chk (inR i v_6.length) <|
  let el:=(v_6.getD i.toNat dDep)
  s_l08Name el fun r =>
  bif (r&&(el.Block==block))&&(el.Slot==slot) then
   q0 el.Id
  else
  s_DepAt_l2 block slot v_6 q0 q1 m (w64 (i+1))
  else
  q1
def s_DepAt (n:Nat) (xm:Mem) (block:Int) (slot:Int) (k0:Int->Option R):Option R :=
 s_DepAt_l2 block slot xm.Deps (fun x =>
  k0 x) (
  k0 0) n 0
def s_TakeBlock (n:Nat) (xm:Mem) (k0:Mem->Int->Option R):Option R :=
 s_l08Copy n xm fun xm_1 =>
 s_FirstFree n xm.Disk.Bits.Blocks fun r =>
 bif (r==0) then
  k0 xm_1 0
 else
 chk (inR (w64 (r-1)) xm_1.Disk.Bits.Blocks.length) <|
 let row:=(xm_1.Disk.Bits.Blocks.set ((w64 (r-1)).toNat) true)
 s_l08Mark 0 ⟨⟨⟨row,xm_1.Disk.Bits.Inos⟩,xm_1.Disk.Inodes,xm_1.Disk.Blocks⟩,xm_1.Dirty,xm_1.Deps,xm_1.Next⟩ fun mo =>
 k0 ⟨⟨⟨row,xm_1.Disk.Bits.Inos⟩,xm_1.Disk.Inodes,xm_1.Disk.Blocks⟩,mo.Dirty,xm_1.Deps,mo.Next⟩ r
def s_DirNew (k0:Block->Option R):Option R :=
 k0 ⟨true,(List.replicate 4 dSlot),eS⟩
def s_UnitOfBlock (p:Int) (k0:Int->Option R):Option R :=
 s_l01In p 1 16 fun r =>
 bif !r then
  k0 (-1)
 else
 k0 (w64 (p+4))
def s_PutDep (n:Nat) (xm:Mem) (d:Dep) (k0:Mem->Int->Option R):Option R :=
 s_l08Copy n xm fun xm_1 =>
 s_l01In xm.Next 1 99999 fun r =>
 let z:=bif !(decide (40<=(xm.Deps.length:Int))) then r else false
 bif (decide (40<=(xm.Deps.length:Int)))||(!z) then
  k0 xm_1 0
 else
 let row:=(([])++d.Blocks)
 chk (lenOk row) <|
 let row_1:=(xm_1.Deps++([⟨xm.Next,d.Kind,d.Ino,d.Ptr,d.Block,d.Slot,d.Name,d.Bits,d.Other,d.After,row⟩]))
 chk (lenOk row_1) <|
 k0 ⟨xm_1.Disk,xm_1.Dirty,row_1,(w64 (xm.Next+1))⟩ xm.Next
def s_l12Put_l9 (n:Nat) (xk:Int) (ok:Bool) (next:Int) (vE:Nat) (v_2:Bool) (bb:List Bool) (bi:List Bool) (di:List Inode) (db:List Block) (dirty:List Bool) (deps:List Dep) (v_4:List Slot) (q0:Int->Int->Option R):Nat->Int->Int->Int->Option R
 | 0,_,_,_=>none
 | m+1,block,slot,s =>
  bif ((decide (0<=s))&&ok)&&v_2 then
  chk (inR s v_4.length) <|
  chk (!(((v_4.getD s.toNat dSlot).Name)==eS)||(inR s v_4.length)) <|
  chk (!((((v_4.getD s.toNat dSlot).Name)==eS)&&(((v_4.getD s.toNat dSlot).Ino)==0))||(inR xk (((di.getD vE dInode).Ptrs).length))) <|
  s_DepAt n ⟨⟨⟨bb,bi⟩,di,db⟩,dirty,deps,next⟩ (((di.getD vE dInode).Ptrs).getD xk.toNat 0) s fun r =>
  let z:=bif (((v_4.getD s.toNat dSlot).Name)==eS)&&(((v_4.getD s.toNat dSlot).Ino)==0) then r else 0
  bif ((((v_4.getD s.toNat dSlot).Name)==eS)&&(((v_4.getD s.toNat dSlot).Ino)==0))&&(z==0) then
   chk (inR xk (((di.getD vE dInode).Ptrs).length)) <|
   s_l12Put_l9 n xk ok next vE v_2 bb bi di db dirty deps v_4 q0 m (((di.getD vE dInode).Ptrs).getD xk.toNat 0) s (w64 (s-1))
  else
  s_l12Put_l9 n xk ok next vE v_2 bb bi di db dirty deps v_4 q0 m block slot (w64 (s-1))
  else
  q0 block slot
def s_l12Put_l9f1 (n:Nat) (xk:Int) (ok:Bool) (next:Int) (vE:Nat) (v_2:Bool) (vE_1:Nat) (bb:List Bool) (bi:List Bool) (di:List Inode) (db:List Block) (dirty:List Bool) (deps:List Dep) (q0:Int->Int->Option R):Nat->Int->Int->Int->Option R
 | 0,_,_,_=>none
 | m+1,block,slot,s =>
  bif ((decide (0<=s))&&ok)&&v_2 then
  chk (inR s (((db.getD vE_1 dBlock).Slots).length)) <|
  chk (!(((((db.getD vE_1 dBlock).Slots).getD s.toNat dSlot).Name)==eS)||(inR s (((db.getD vE_1 dBlock).Slots).length))) <|
  chk (!((((((db.getD vE_1 dBlock).Slots).getD s.toNat dSlot).Name)==eS)&&(((((db.getD vE_1 dBlock).Slots).getD s.toNat dSlot).Ino)==0))||(inR xk (((di.getD vE dInode).Ptrs).length))) <|
  s_DepAt n ⟨⟨⟨bb,bi⟩,di,db⟩,dirty,deps,next⟩ (((di.getD vE dInode).Ptrs).getD xk.toNat 0) s fun r =>
  let z:=bif (((((db.getD vE_1 dBlock).Slots).getD s.toNat dSlot).Name)==eS)&&(((((db.getD vE_1 dBlock).Slots).getD s.toNat dSlot).Ino)==0) then r else 0
  bif ((((((db.getD vE_1 dBlock).Slots).getD s.toNat dSlot).Name)==eS)&&(((((db.getD vE_1 dBlock).Slots).getD s.toNat dSlot).Ino)==0))&&(z==0) then
   chk (inR xk (((di.getD vE dInode).Ptrs).length)) <|
   s_l12Put_l9f1 n xk ok next vE v_2 vE_1 bb bi di db dirty deps q0 m (((di.getD vE dInode).Ptrs).getD xk.toNat 0) s (w64 (s-1))
  else
  s_l12Put_l9f1 n xk ok next vE v_2 vE_1 bb bi di db dirty deps q0 m block slot (w64 (s-1))
  else
  q0 block slot
def s_l12Put_l5 (n:Nat) (next:Int) (vE:Nat) (bb:List Bool) (bi:List Bool) (di:List Inode) (db:List Block) (dirty:List Bool) (deps:List Dep) (q0:Int->Int->Option R):Nat->Int->Int->Int->Option R
 | 0,_,_,_=>none
 | m+1,block,slot,xk =>
  bif (decide (0<=xk)) then
  chk (inR xk (((di.getD vE dInode).Ptrs).length)) <|
  s_l11BlockA ⟨⟨bb,bi⟩,di,db⟩ (((di.getD vE dInode).Ptrs).getD xk.toNat 0)
   (fun b r =>
   s_l12Put_l9 n xk r next vE b.Dir bb bi di db dirty deps b.Slots (fun block_1 slot_1 =>
    s_l12Put_l5 n next vE bb bi di db dirty deps q0 m block_1 slot_1 (w64 (xk-1))) m block slot (w64 ((b.Slots.length:Int)-1)))
   (fun b_1 e r_1 =>
   s_l12Put_l9f1 n xk r_1 next vE b_1.Dir e bb bi di db dirty deps (fun block_2 slot_2 =>
    s_l12Put_l5 n next vE bb bi di db dirty deps q0 m block_2 slot_2 (w64 (xk-1))) m block slot (w64 ((((db.getD e dBlock).Slots).length:Int)-1)))
  else
  q0 block slot
def s_l12Put_l16 (vE:Nat) (di:List Inode) (q0:Int->Option R):Nat->Int->Option R
 | 0,_=>none
 | m+1,xk =>
  chk (!(decide (xk<(((di.getD vE dInode).Ptrs).length:Int)))||(inR xk (((di.getD vE dInode).Ptrs).length))) <|
  bif (decide (xk<(((di.getD vE dInode).Ptrs).length:Int)))&&(!((((di.getD vE dInode).Ptrs).getD xk.toNat 0)==0)) then
  s_l12Put_l16 vE di q0 m (w64 (xk+1))
  else
  q0 xk
def s_l12Put (n:Nat) (dir:Int) (name:ByteArray) (ino:Int) (xm:Mem) (k0:Int->Mem->Option R):Option R :=
 chk (inR (w64 (dir-1)) xm.Disk.Inodes.length) <|
 let el:=(xm.Disk.Inodes.getD ((w64 (dir-1)).toNat) dInode)
 s_l12Put_l5 n xm.Next ((w64 (dir-1)).toNat) xm.Disk.Bits.Blocks xm.Disk.Bits.Inos xm.Disk.Inodes xm.Disk.Blocks xm.Dirty xm.Deps (fun block slot =>
  bif (block==0) then
  s_l12Put_l16 ((w64 (dir-1)).toNat) xm.Disk.Inodes (fun xk =>
   bif (xk==(((xm.Disk.Inodes.getD ((w64 (dir-1)).toNat) dInode).Ptrs).length:Int)) then
   k0 0 xm
   else
   s_TakeBlock n xm fun xm_1 r =>
   bif (r==0) then
   k0 0 xm
   else
   s_DirNew fun b =>
   chk (inR (w64 (r-1)) xm_1.Disk.Blocks.length) <|
   let row:=(xm_1.Disk.Blocks.set ((w64 (r-1)).toNat) b)
   chk (inR (w64 (dir-1)) xm_1.Disk.Inodes.length) <|
   chk (inR xk (((xm_1.Disk.Inodes.getD ((w64 (dir-1)).toNat) dInode).Ptrs).length)) <|
   let row_1:=(xm_1.Disk.Inodes.set ((w64 (dir-1)).toNat) ⟨(xm_1.Disk.Inodes.getD ((w64 (dir-1)).toNat) dInode).Kind,(xm_1.Disk.Inodes.getD ((w64 (dir-1)).toNat) dInode).Links,(((xm_1.Disk.Inodes.getD ((w64 (dir-1)).toNat) dInode).Ptrs).set xk.toNat r)⟩)
   s_UnitOfBlock r fun r_1 =>
   s_l08Mark r_1 ⟨⟨xm_1.Disk.Bits,row_1,row⟩,xm_1.Dirty,xm_1.Deps,xm_1.Next⟩ fun mo =>
   s_UnitOfIno dir fun r_2 =>
   s_l08Mark r_2 ⟨⟨xm_1.Disk.Bits,row_1,row⟩,mo.Dirty,xm_1.Deps,mo.Next⟩ fun mo_1 =>
   s_PutDep n ⟨⟨xm_1.Disk.Bits,row_1,row⟩,mo_1.Dirty,xm_1.Deps,mo_1.Next⟩ ⟨0,1,dir,xk,r,0,eS,false,false,0,[]⟩ fun xm_2 r_3 =>
   chk (inR (w64 (r-1)) xm_2.Disk.Blocks.length) <|
   chk (inR slot (((xm_2.Disk.Blocks.getD ((w64 (r-1)).toNat) dBlock).Slots).length)) <|
   let row_2:=(xm_2.Disk.Blocks.set ((w64 (r-1)).toNat) ⟨(xm_2.Disk.Blocks.getD ((w64 (r-1)).toNat) dBlock).Dir,(((xm_2.Disk.Blocks.getD ((w64 (r-1)).toNat) dBlock).Slots).set slot.toNat ⟨name,ino⟩),(xm_2.Disk.Blocks.getD ((w64 (r-1)).toNat) dBlock).Text⟩)
   s_UnitOfBlock r fun r_4 =>
   s_l08Mark r_4 ⟨⟨xm_2.Disk.Bits,xm_2.Disk.Inodes,row_2⟩,xm_2.Dirty,xm_2.Deps,xm_2.Next⟩ fun mo_2 =>
   s_l08Mark 0 ⟨⟨xm_2.Disk.Bits,xm_2.Disk.Inodes,row_2⟩,mo_2.Dirty,xm_2.Deps,mo_2.Next⟩ fun mo_3 =>
   s_PutDep n ⟨⟨xm_2.Disk.Bits,xm_2.Disk.Inodes,row_2⟩,mo_3.Dirty,xm_2.Deps,mo_3.Next⟩ ⟨0,2,ino,0,r,slot,eS,false,false,0,[]⟩ fun xm_3 r_5 =>
   k0 r_5 xm_3) n 0
  else
  chk (inR (w64 (block-1)) xm.Disk.Blocks.length) <|
  chk (inR slot (((xm.Disk.Blocks.getD ((w64 (block-1)).toNat) dBlock).Slots).length)) <|
  let row_3:=(xm.Disk.Blocks.set ((w64 (block-1)).toNat) ⟨(xm.Disk.Blocks.getD ((w64 (block-1)).toNat) dBlock).Dir,(((xm.Disk.Blocks.getD ((w64 (block-1)).toNat) dBlock).Slots).set slot.toNat ⟨name,ino⟩),(xm.Disk.Blocks.getD ((w64 (block-1)).toNat) dBlock).Text⟩)
  s_UnitOfBlock block fun r_6 =>
  s_l08Mark r_6 ⟨⟨xm.Disk.Bits,xm.Disk.Inodes,row_3⟩,xm.Dirty,xm.Deps,xm.Next⟩ fun mo_4 =>
  s_l08Mark 0 ⟨⟨xm.Disk.Bits,xm.Disk.Inodes,row_3⟩,mo_4.Dirty,xm.Deps,mo_4.Next⟩ fun mo_5 =>
  s_PutDep n ⟨⟨xm.Disk.Bits,xm.Disk.Inodes,row_3⟩,mo_5.Dirty,xm.Deps,mo_5.Next⟩ ⟨0,2,ino,0,block,slot,eS,false,false,0,[]⟩ fun xm_4 r_7 =>
  k0 r_7 xm_4) n 0 0 (w64 ((((xm.Disk.Inodes.getD ((w64 (dir-1)).toNat) dInode).Ptrs).length:Int)-1))
def s_MakeNode (n:Nat) (xm:Mem) (p:ByteArray) (kind:Int) (k0:Mem->Int->Option R):Option R :=
 s_l08Copy n xm fun xm_1 =>
 s_l12Split n p fun r r_1 r_2 =>
 s_MemOk n xm fun r_3 =>
 bif ((!r_3)||(!r_2))||((!(kind==1))&&(!(kind==2))) then
  k0 xm_1 6
 else
 s_WalkPath n xm.Disk p fun r_4 =>
 bif (!(r_4==0)) then
  k0 xm_1 2
 else
 s_WalkPath n xm.Disk r fun r_5 =>
 bif (r_5==0) then
  k0 xm_1 1
 else
 chk (inR (w64 (r_5-1)) xm.Disk.Inodes.length) <|
 bif (!(((xm.Disk.Inodes.getD ((w64 (r_5-1)).toNat) dInode).Kind)==2)) then
  k0 xm_1 3
 else
 s_l12Waits n xm r_5 r_1 fun r_6 =>
 bif r_6 then
  k0 xm_1 5
 else
 s_TakeIno n xm fun xm_2 r_7 =>
 s_l12Room xm_2 fun r_8 mo =>
 let z:=bif !(r_7==0) then r_8 else false
 let z_1:=bif !(r_7==0) then mo.Next else xm_2.Next
 bif (r_7==0)||(!z) then
  k0 xm_1 4
 else
 s_InodeNew kind fun i =>
 chk (inR (w64 (r_7-1)) xm_2.Disk.Inodes.length) <|
 let row:=(xm_2.Disk.Inodes.set ((w64 (r_7-1)).toNat) i)
 s_UnitOfIno r_7 fun r_9 =>
 s_l08Mark r_9 ⟨⟨xm_2.Disk.Bits,row,xm_2.Disk.Blocks⟩,xm_2.Dirty,xm_2.Deps,z_1⟩ fun mo_1 =>
 s_l12Put n r_5 r_1 r_7 ⟨⟨xm_2.Disk.Bits,row,xm_2.Disk.Blocks⟩,mo_1.Dirty,xm_2.Deps,mo_1.Next⟩ fun r_10 mo_2 =>
 bif (r_10==0) then
  k0 xm_1 4
 else
 k0 mo_2 0
def s_WriteText (n:Nat) (xm:Mem) (p:ByteArray) (xk:Int) (s:ByteArray) (k0:Mem->Int->Option R):Option R :=
 s_l08Copy n xm fun xm_1 =>
 s_SplitPath n p fun r r_1 =>
 s_MemOk n xm fun r_2 =>
 s_l01In xk 0 1 fun r_3 =>
 let z:=bif !((!r_2)||(!r_1)) then r_3 else false
 bif (((!r_2)||(!r_1))||(!z))||(decide (16<(s.size:Int))) then
  k0 xm_1 6
 else
 s_WalkPath n xm.Disk p fun r_4 =>
 bif (r_4==0) then
  k0 xm_1 1
 else
 chk (inR (w64 (r_4-1)) xm.Disk.Inodes.length) <|
 bif (!(((xm.Disk.Inodes.getD ((w64 (r_4-1)).toNat) dInode).Kind)==1)) then
  k0 xm_1 3
 else
 s_l08Copy n xm fun xm_2 =>
 chk (inR (w64 (r_4-1)) xm.Disk.Inodes.length) <|
 chk (inR xk (((xm.Disk.Inodes.getD ((w64 (r_4-1)).toNat) dInode).Ptrs).length)) <|
 bif ((((xm.Disk.Inodes.getD ((w64 (r_4-1)).toNat) dInode).Ptrs).getD xk.toNat 0)==0) then
  s_TakeBlock n xm fun xm_3 r_5 =>
  s_l12Room xm_2 fun r_6 mo =>
  let z_1:=bif !(r_5==0) then r_6 else false
  let z_2:=bif !(r_5==0) then mo.Next else xm_2.Next
  bif (r_5==0)||(!z_1) then
  k0 xm_1 4
  else
  chk (inR (w64 (r_4-1)) xm_3.Disk.Inodes.length) <|
  chk (inR xk (((xm_3.Disk.Inodes.getD ((w64 (r_4-1)).toNat) dInode).Ptrs).length)) <|
  let row:=(xm_3.Disk.Inodes.set ((w64 (r_4-1)).toNat) ⟨(xm_3.Disk.Inodes.getD ((w64 (r_4-1)).toNat) dInode).Kind,(xm_3.Disk.Inodes.getD ((w64 (r_4-1)).toNat) dInode).Links,(((xm_3.Disk.Inodes.getD ((w64 (r_4-1)).toNat) dInode).Ptrs).set xk.toNat r_5)⟩)
  s_UnitOfIno r_4 fun r_7 =>
  s_l08Mark r_7 ⟨⟨xm_3.Disk.Bits,row,xm_3.Disk.Blocks⟩,xm_3.Dirty,xm_3.Deps,xm_3.Next⟩ fun mo_1 =>
  s_PutDep n ⟨⟨xm_3.Disk.Bits,row,xm_3.Disk.Blocks⟩,mo_1.Dirty,xm_3.Deps,mo_1.Next⟩ ⟨0,1,r_4,xk,r_5,0,eS,false,false,0,[]⟩ fun xm_4 r_8 =>
  chk (inR (w64 (r_5-1)) xm_4.Disk.Blocks.length) <|
  let row_1:=(xm_4.Disk.Blocks.set ((w64 (r_5-1)).toNat) ⟨false,[],s⟩)
  s_UnitOfBlock r_5 fun r_9 =>
  s_l08Mark r_9 ⟨⟨xm_4.Disk.Bits,xm_4.Disk.Inodes,row_1⟩,xm_4.Dirty,xm_4.Deps,xm_4.Next⟩ fun mo_2 =>
  k0 ⟨⟨xm_4.Disk.Bits,xm_4.Disk.Inodes,row_1⟩,mo_2.Dirty,xm_4.Deps,mo_2.Next⟩ 0
 else
 chk (inR (w64 ((((xm.Disk.Inodes.getD ((w64 (r_4-1)).toNat) dInode).Ptrs).getD xk.toNat 0)-1)) xm_2.Disk.Blocks.length) <|
 let row_2:=(xm_2.Disk.Blocks.set ((w64 ((((xm.Disk.Inodes.getD ((w64 (r_4-1)).toNat) dInode).Ptrs).getD xk.toNat 0)-1)).toNat) ⟨false,[],s⟩)
 s_UnitOfBlock (((xm.Disk.Inodes.getD ((w64 (r_4-1)).toNat) dInode).Ptrs).getD xk.toNat 0) fun r_10 =>
 s_l08Mark r_10 ⟨⟨xm_2.Disk.Bits,xm_2.Disk.Inodes,row_2⟩,xm_2.Dirty,xm_2.Deps,xm_2.Next⟩ fun mo_3 =>
 k0 ⟨⟨xm_2.Disk.Bits,xm_2.Disk.Inodes,row_2⟩,mo_3.Dirty,xm_2.Deps,mo_3.Next⟩ 0
def s_NamesOf_l10 (v_2:Bool) (v_9:List Slot) (q0:(List ByteArray)->Option R):Nat->Int->(List ByteArray)->Option R
 | 0,_,_=>none
 | m+1,s,out =>
  bif (decide (s<(v_9.length:Int)))&&v_2 then
  chk (inR s v_9.length) <|
  bif (!(((v_9.getD s.toNat dSlot).Name)==eS)) then
   chk (inR s v_9.length) <|
   let row:=(out++([(v_9.getD s.toNat dSlot).Name]))
   chk (lenOk row) <|
   s_NamesOf_l10 v_2 v_9 q0 m (w64 (s+1)) row
  else
  s_NamesOf_l10 v_2 v_9 q0 m (w64 (s+1)) out
  else
  q0 out
def s_NamesOf_l6 (v_2:List Bool) (v_3:List Bool) (v_4:List Inode) (v_5:List Block) (v_6:List Int) (q0:(List ByteArray)->Option R):Nat->Int->(List ByteArray)->Option R
 | 0,_,_=>none
 | m+1,xk,out =>
  bif (decide (xk<(v_6.length:Int))) then
  chk (inR xk v_6.length) <|
  s_l11Block ⟨⟨v_2,v_3⟩,v_4,v_5⟩ (v_6.getD xk.toNat 0) fun b r =>
  s_NamesOf_l10 b.Dir b.Slots (fun out_1 =>
   s_NamesOf_l6 v_2 v_3 v_4 v_5 v_6 q0 m (w64 (xk+1)) out_1) m 0 out
  else
  q0 out
def s_NamesOf (n:Nat) (d:Disk) (i:Int) (k0:(List ByteArray)->Option R):Option R :=
 s_l01In i 1 (d.Inodes.length:Int) fun r =>
 chk (!(!(!r))||(inR (w64 (i-1)) d.Inodes.length)) <|
 bif (!r)||(!(((d.Inodes.getD ((w64 (i-1)).toNat) dInode).Kind)==2)) then
  k0 ([])
 else
 chk (inR (w64 (i-1)) d.Inodes.length) <|
 let el:=(d.Inodes.getD ((w64 (i-1)).toNat) dInode)
 s_NamesOf_l6 d.Bits.Blocks d.Bits.Inos d.Inodes d.Blocks ((d.Inodes.getD ((w64 (i-1)).toNat) dInode).Ptrs) (fun out =>
  k0 out) n 0 ([])
def s_l12Held_l2 (n:Nat) (i:Int) (v_3:List Inode) (v_6:List Dep) (q0:Bool->Option R) (q1:Option R):Nat->Int->Option R
 | 0,_=>none
 | m+1,xk =>
  bif (decide (xk<(v_6.length:Int))) then
  chk (inR xk v_6.length) <|
  let el:=(v_6.getD xk.toNat dDep)
  chk (!((el.Kind==4)&&(decide (0<el.After)))||(inR (w64 (i-1)) v_3.length)) <|
  s_l10Has n ((v_3.getD ((w64 (i-1)).toNat) dInode).Ptrs) el.Block fun r =>
  let z:=bif (el.Kind==4)&&(decide (0<el.After)) then r else false
  bif ((el.Kind==4)&&(decide (0<el.After)))&&z then
   q0 true
  else
  s_l12Held_l2 n i v_3 v_6 q0 q1 m (w64 (xk+1))
  else
  q1
def s_l12Held (n:Nat) (xm:Mem) (i:Int) (k0:Bool->Option R):Option R :=
 s_l12Held_l2 n i xm.Disk.Inodes xm.Deps (fun x =>
  k0 x) (
  k0 false) n 0
def s_l12Kind_l2 (id:Int) (deps:List Dep) (q0:Int->Option R) (q1:Option R):Nat->Int->Option R
 | 0,_=>none
 | m+1,xk =>
  bif (decide (xk<(deps.length:Int))) then
  chk (inR xk deps.length) <|
  bif (((deps.getD xk.toNat dDep).Id)==id) then
   chk (inR xk deps.length) <|
   q0 ((deps.getD xk.toNat dDep).Kind)
  else
  s_l12Kind_l2 id deps q0 q1 m (w64 (xk+1))
  else
  q1
def s_l12Kind (n:Nat) (id:Int) (xm:Mem) (k0:Int->Mem->Option R):Option R :=
 s_l12Kind_l2 id xm.Deps (fun x =>
  k0 x xm) (
  k0 0 xm) n 0
def s_DropDep_l4 (id:Int) (v_13:List Dep) (q0:(List Dep)->Option R):Nat->Int->(List Dep)->Option R
 | 0,_,_=>none
 | m+1,i,list =>
  bif (decide (i<(v_13.length:Int))) then
  chk (inR i v_13.length) <|
  bif (!(((v_13.getD i.toNat dDep).Id)==id)) then
   chk (inR i v_13.length) <|
   let el:=(v_13.getD i.toNat dDep)
   let row:=(list++([el]))
   chk (lenOk row) <|
   s_DropDep_l4 id v_13 q0 m (w64 (i+1)) row
  else
  s_DropDep_l4 id v_13 q0 m (w64 (i+1)) list
  else
  q0 list
def s_DropDep (n:Nat) (xm:Mem) (id:Int) (k0:Mem->Option R):Option R :=
 s_l08Copy n xm fun xm_1 =>
 s_DropDep_l4 id xm_1.Deps (fun list =>
  k0 ⟨xm_1.Disk,xm_1.Dirty,list,xm_1.Next⟩) n 0 ([])
def s_l10Shown_l2 (id:Int) (after:Int) (bb:List Bool) (bi:List Bool) (di:List Inode) (db:List Block) (q0:Int->(List Bool)->(List Dep)->Option R):Nat->Int->Int->(List Bool)->(List Dep)->Option R
 | 0,_,_,_,_=>none
 | m+1,xk,next,dirty,deps =>
  bif (decide (xk<(deps.length:Int))) then
  chk (inR xk deps.length) <|
  chk (!(((deps.getD xk.toNat dDep).Kind)==4)||(inR xk deps.length)) <|
  bif (((deps.getD xk.toNat dDep).Kind)==4)&&(((deps.getD xk.toNat dDep).After)==id) then
   chk (inR xk deps.length) <|
   let row:=(deps.set xk.toNat ⟨(deps.getD xk.toNat dDep).Id,(deps.getD xk.toNat dDep).Kind,(deps.getD xk.toNat dDep).Ino,(deps.getD xk.toNat dDep).Ptr,(deps.getD xk.toNat dDep).Block,(deps.getD xk.toNat dDep).Slot,(deps.getD xk.toNat dDep).Name,(deps.getD xk.toNat dDep).Bits,(deps.getD xk.toNat dDep).Other,after,(deps.getD xk.toNat dDep).Blocks⟩)
   bif (after==0) then
   chk (inR xk row.length) <|
   s_UnitOfBlock ((row.getD xk.toNat dDep).Block) fun r =>
   s_l08Mark r ⟨⟨⟨bb,bi⟩,di,db⟩,dirty,row,next⟩ fun mo =>
   s_l10Shown_l2 id after bb bi di db q0 m (w64 (xk+1)) mo.Next mo.Dirty row
   else
   s_l10Shown_l2 id after bb bi di db q0 m (w64 (xk+1)) next dirty row
  else
  s_l10Shown_l2 id after bb bi di db q0 m (w64 (xk+1)) next dirty deps
  else
  q0 next dirty deps
def s_l10Shown (n:Nat) (id:Int) (after:Int) (xm:Mem) (k0:Mem->Option R):Option R :=
 s_DropDep n xm id fun xm_1 =>
 s_l10Shown_l2 id after xm_1.Disk.Bits.Blocks xm_1.Disk.Bits.Inos xm_1.Disk.Inodes xm_1.Disk.Blocks (fun next dirty deps =>
  k0 ⟨xm_1.Disk,dirty,deps,next⟩) n 0 xm_1.Next xm_1.Dirty xm_1.Deps
def s_l10Lose_l9 (i:Int) (deps:List Dep) (q0:(List Dep)->Option R):Nat->Int->(List Dep)->Option R
 | 0,_,_=>none
 | m+1,xk,list =>
  bif (decide (xk<(deps.length:Int))) then
  chk (inR xk deps.length) <|
  chk (!(!((!(((deps.getD xk.toNat dDep).Kind)==1))&&(!(((deps.getD xk.toNat dDep).Kind)==6))))||(inR xk deps.length)) <|
  bif ((!(((deps.getD xk.toNat dDep).Kind)==1))&&(!(((deps.getD xk.toNat dDep).Kind)==6)))||(!(((deps.getD xk.toNat dDep).Ino)==i)) then
   chk (inR xk deps.length) <|
   let el:=(deps.getD xk.toNat dDep)
   let row:=(list++([el]))
   chk (lenOk row) <|
   s_l10Lose_l9 i deps q0 m (w64 (xk+1)) row
  else
  s_l10Lose_l9 i deps q0 m (w64 (xk+1)) list
  else
  q0 list
def s_l10Lose_l17 (vE:Nat) (di:List Inode) (q0:(List Int)->Option R):Nat->Int->(List Int)->Option R
 | 0,_,_=>none
 | m+1,xk,blocks =>
  bif (decide (xk<(((di.getD vE dInode).Ptrs).length:Int))) then
  chk (inR xk (((di.getD vE dInode).Ptrs).length)) <|
  bif (decide (0<(((di.getD vE dInode).Ptrs).getD xk.toNat 0))) then
   chk (inR xk (((di.getD vE dInode).Ptrs).length)) <|
   let row:=(blocks++([(((di.getD vE dInode).Ptrs).getD xk.toNat 0)]))
   chk (lenOk row) <|
   s_l10Lose_l17 vE di q0 m (w64 (xk+1)) row
  else
  s_l10Lose_l17 vE di q0 m (w64 (xk+1)) blocks
  else
  q0 blocks
def s_l10Lose (n:Nat) (i:Int) (xm:Mem) (k0:Mem->Option R):Option R :=
 s_l01In xm.Next 1 99999 fun r =>
 let z:=bif !(decide (40<=(xm.Deps.length:Int))) then r else false
 bif (decide (40<=(xm.Deps.length:Int)))||(!z) then
  k0 xm
 else
 chk (inR (w64 (i-1)) xm.Disk.Inodes.length) <|
 let el:=(xm.Disk.Inodes.getD ((w64 (i-1)).toNat) dInode)
 s_l03Copy el fun i_1 =>
 s_UnitOfIno i fun r_1 =>
 s_l08Mark r_1 xm fun mo =>
 bif (decide (0<i_1.Links)) then
  chk (inR (w64 (i-1)) xm.Disk.Inodes.length) <|
  let row:=(xm.Disk.Inodes.set ((w64 (i-1)).toNat) ⟨i_1.Kind,(w64 (i_1.Links-1)),i_1.Ptrs⟩)
  bif (decide (0<(w64 (i_1.Links-1))))||(i_1.Kind==0) then
  k0 ⟨⟨xm.Disk.Bits,row,xm.Disk.Blocks⟩,mo.Dirty,xm.Deps,mo.Next⟩
  else
  s_l10Lose_l9 i xm.Deps (fun list =>
  s_l10Lose_l17 ((w64 (i-1)).toNat) row (fun blocks =>
   s_InodeNew 0 fun i_2 =>
   chk (inR (w64 (i-1)) row.length) <|
   let row_1:=(row.set ((w64 (i-1)).toNat) i_2)
   s_PutDep n ⟨⟨xm.Disk.Bits,row_1,xm.Disk.Blocks⟩,mo.Dirty,list,mo.Next⟩ ⟨0,5,i,0,0,0,eS,false,false,0,blocks⟩ fun xm_1 r_2 =>
   k0 xm_1) n 0 ([])) n 0 ([])
 else
 chk (inR (w64 (i-1)) xm.Disk.Inodes.length) <|
 let row_2:=(xm.Disk.Inodes.set ((w64 (i-1)).toNat) i_1)
 bif (decide (0<i_1.Links))||(i_1.Kind==0) then
  k0 ⟨⟨xm.Disk.Bits,row_2,xm.Disk.Blocks⟩,mo.Dirty,xm.Deps,mo.Next⟩
 else
 s_l10Lose_l9 i xm.Deps (fun list_1 =>
  s_l10Lose_l17 ((w64 (i-1)).toNat) row_2 (fun blocks_1 =>
  s_InodeNew 0 fun i_3 =>
  chk (inR (w64 (i-1)) row_2.length) <|
  let row_3:=(row_2.set ((w64 (i-1)).toNat) i_3)
  s_PutDep n ⟨⟨xm.Disk.Bits,row_3,xm.Disk.Blocks⟩,mo.Dirty,list_1,mo.Next⟩ ⟨0,5,i,0,0,0,eS,false,false,0,blocks_1⟩ fun xm_2 r_3 =>
  k0 xm_2) n 0 ([])) n 0 ([])
def s_l12Gone (n:Nat) (block:Int) (slot:Int) (xby:Int) (xm:Mem) (k0:Mem->Option R):Option R :=
 chk (inR (w64 (block-1)) xm.Disk.Blocks.length) <|
 chk (inR slot (((xm.Disk.Blocks.getD ((w64 (block-1)).toNat) dBlock).Slots).length)) <|
 s_DepAt n xm block slot fun r =>
 s_l12Kind n r xm fun r_1 mo =>
 chk (inR (w64 (block-1)) xm.Disk.Blocks.length) <|
 chk (inR slot (((xm.Disk.Blocks.getD ((w64 (block-1)).toNat) dBlock).Slots).length)) <|
 let row:=(xm.Disk.Blocks.set ((w64 (block-1)).toNat) ⟨(xm.Disk.Blocks.getD ((w64 (block-1)).toNat) dBlock).Dir,(((xm.Disk.Blocks.getD ((w64 (block-1)).toNat) dBlock).Slots).set slot.toNat ⟨eS,0⟩),(xm.Disk.Blocks.getD ((w64 (block-1)).toNat) dBlock).Text⟩)
 s_UnitOfBlock block fun r_2 =>
 s_l08Mark r_2 ⟨⟨xm.Disk.Bits,xm.Disk.Inodes,row⟩,xm.Dirty,xm.Deps,mo.Next⟩ fun mo_1 =>
 bif (r_1==2)||(r_1==3) then
  s_l10Shown n r xby ⟨⟨xm.Disk.Bits,xm.Disk.Inodes,row⟩,mo_1.Dirty,xm.Deps,mo_1.Next⟩ fun mo_2 =>
  s_l10Lose n ((((xm.Disk.Blocks.getD ((w64 (block-1)).toNat) dBlock).Slots).getD slot.toNat dSlot).Ino) mo_2 fun mo_3 =>
  k0 mo_3
 else
 s_PutDep n ⟨⟨xm.Disk.Bits,xm.Disk.Inodes,row⟩,mo_1.Dirty,xm.Deps,mo_1.Next⟩ ⟨0,4,(((xm.Disk.Blocks.getD ((w64 (block-1)).toNat) dBlock).Slots).getD slot.toNat dSlot).Ino,0,block,slot,(((xm.Disk.Blocks.getD ((w64 (block-1)).toNat) dBlock).Slots).getD slot.toNat dSlot).Name,false,false,xby,[]⟩ fun xm_1 r_3 =>
 k0 xm_1
def s_RemoveNode (n:Nat) (xm:Mem) (p:ByteArray) (k0:Mem->Int->Option R):Option R :=
 s_l08Copy n xm fun xm_1 =>
 s_l12Split n p fun r r_1 r_2 =>
 s_MemOk n xm fun r_3 =>
 bif (!r_3)||(!r_2) then
  k0 xm_1 6
 else
 s_WalkPath n xm.Disk r fun r_4 =>
 s_l11Find n xm.Disk r_4 r_1 fun r_5 r_6 r_7 =>
 bif (r_7==0) then
  k0 xm_1 1
 else
 s_NamesOf n xm.Disk r_7 fun r_8 =>
 chk (!(!(decide (0<(r_8.length:Int))))||(inR (w64 (r_7-1)) xm.Disk.Inodes.length)) <|
 s_l12Held n xm r_7 fun r_9 =>
 let z:=bif (!(decide (0<(r_8.length:Int))))&&(((xm.Disk.Inodes.getD ((w64 (r_7-1)).toNat) dInode).Kind)==2) then r_9 else false
 s_l12Room xm_1 fun r_10 mo =>
 let z_1:=bif !((decide (0<(r_8.length:Int)))||((((xm.Disk.Inodes.getD ((w64 (r_7-1)).toNat) dInode).Kind)==2)&&z)) then r_10 else false
 let z_2:=bif !((decide (0<(r_8.length:Int)))||((((xm.Disk.Inodes.getD ((w64 (r_7-1)).toNat) dInode).Kind)==2)&&z)) then mo.Next else xm_1.Next
 bif ((decide (0<(r_8.length:Int)))||((((xm.Disk.Inodes.getD ((w64 (r_7-1)).toNat) dInode).Kind)==2)&&z))||(!z_1) then
  k0 ⟨xm_1.Disk,xm_1.Dirty,xm_1.Deps,z_2⟩ 5
 else
 s_l08Copy n xm fun xm_2 =>
 s_l12Gone n r_5 r_6 0 xm_2 fun mo_1 =>
 k0 mo_1 0
def s_l12Deep_l4 (n:Nat) (list:List ByteArray) (v_1:List Bool) (v_2:List Bool) (v_3:List Inode) (v_4:List Block) (v_5:List Bool) (v_6:List Dep) (q0:Bool->Option R) (q1:Option R):Nat->Int->Int->Int->Option R
 | 0,_,_,_=>none
 | m+1,i,xk,v =>
  bif (decide (xk<(list.length:Int))) then
  chk (inR xk list.length) <|
  s_l11Find n ⟨⟨v_1,v_2⟩,v_3,v_4⟩ i (list.getD xk.toNat eS) fun r r_1 r_2 =>
  s_DepAt n ⟨⟨⟨v_1,v_2⟩,v_3,v_4⟩,v_5,v_6,v⟩ r r_1 fun r_3 =>
  s_l12Kind n r_3 ⟨⟨⟨v_1,v_2⟩,v_3,v_4⟩,v_5,v_6,v⟩ fun r_4 mo =>
  bif (decide (0<r_2))&&((r_4==2)||(r_4==3)) then
   q0 true
  else
  s_l12Deep_l4 n list v_1 v_2 v_3 v_4 v_5 v_6 q0 q1 m r_2 (w64 (xk+1)) mo.Next
  else
  q1
def s_l12Deep (n:Nat) (xm:Mem) (dir:ByteArray) (k0:Bool->Option R):Option R :=
 s_SplitPath n dir fun r r_1 =>
 s_l12Deep_l4 n r xm.Disk.Bits.Blocks xm.Disk.Bits.Inos xm.Disk.Inodes xm.Disk.Blocks xm.Dirty xm.Deps (fun x =>
  k0 x) (
  k0 false) n 1 0 xm.Next
def s_MoveFile (n:Nat) (xm:Mem) (p:ByteArray) (q:ByteArray) (k0:Mem->Int->Option R):Option R :=
 s_l08Copy n xm fun xm_1 =>
 s_l12Split n p fun r r_1 r_2 =>
 s_l12Split n q fun r_3 r_4 r_5 =>
 s_MemOk n xm fun r_6 =>
 bif ((!r_6)||(!r_2))||(!r_5) then
  k0 xm_1 6
 else
 s_WalkPath n xm.Disk r fun r_7 =>
 s_l11Find n xm.Disk r_7 r_1 fun r_8 r_9 r_10 =>
 s_WalkPath n xm.Disk r_3 fun r_11 =>
 bif (r_10==0)||(r_11==0) then
  k0 xm_1 1
 else
 chk (inR (w64 (r_10-1)) xm.Disk.Inodes.length) <|
 chk (!(!(!(((xm.Disk.Inodes.getD ((w64 (r_10-1)).toNat) dInode).Kind)==1)))||(inR (w64 (r_11-1)) xm.Disk.Inodes.length)) <|
 bif (!(((xm.Disk.Inodes.getD ((w64 (r_10-1)).toNat) dInode).Kind)==1))||(!(((xm.Disk.Inodes.getD ((w64 (r_11-1)).toNat) dInode).Kind)==2)) then
  k0 xm_1 3
 else
 s_WalkPath n xm.Disk q fun r_12 =>
 bif (!(r_12==0)) then
  k0 xm_1 2
 else
 s_l12Waits n xm r_11 r_4 fun r_13 =>
 s_l12Deep n xm r_3 fun r_14 =>
 let z:=bif !r_13 then r_14 else false
 bif r_13||z then
  k0 xm_1 5
 else
 s_l12Room xm_1 fun r_15 mo =>
 bif !r_15 then
  k0 ⟨xm_1.Disk,xm_1.Dirty,xm_1.Deps,mo.Next⟩ 4
 else
 chk (inR (w64 (r_10-1)) xm.Disk.Inodes.length) <|
 bif (decide (200<=(xm.Disk.Inodes.getD ((w64 (r_10-1)).toNat) dInode).Links)) then
  k0 ⟨xm_1.Disk,xm_1.Dirty,xm_1.Deps,mo.Next⟩ 5
 else
 s_l08Copy n xm fun xm_2 =>
 chk (inR (w64 (r_10-1)) xm.Disk.Inodes.length) <|
 chk (inR (w64 (r_10-1)) xm_2.Disk.Inodes.length) <|
 let row:=(xm_2.Disk.Inodes.set ((w64 (r_10-1)).toNat) ⟨(xm_2.Disk.Inodes.getD ((w64 (r_10-1)).toNat) dInode).Kind,(w64 (((xm.Disk.Inodes.getD ((w64 (r_10-1)).toNat) dInode).Links)+1)),(xm_2.Disk.Inodes.getD ((w64 (r_10-1)).toNat) dInode).Ptrs⟩)
 s_UnitOfIno r_10 fun r_16 =>
 s_l08Mark r_16 ⟨⟨xm_2.Disk.Bits,row,xm_2.Disk.Blocks⟩,xm_2.Dirty,xm_2.Deps,xm_2.Next⟩ fun mo_1 =>
 s_l12Put n r_11 r_4 r_10 ⟨⟨xm_2.Disk.Bits,row,xm_2.Disk.Blocks⟩,mo_1.Dirty,xm_2.Deps,mo_1.Next⟩ fun r_17 mo_2 =>
 bif (r_17==0) then
  k0 ⟨xm_1.Disk,xm_1.Dirty,xm_1.Deps,mo.Next⟩ 4
 else
 s_l12Gone n r_8 r_9 r_17 mo_2 fun mo_3 =>
 k0 mo_3 0
def s_l17Call (n:Nat) (xm:Mem) (e:Event) (k0:Mem->Int->Bool->Option R):Option R :=
 bif (e.Kind==1) then
  s_MakeNode n xm e.Path 1 fun xm_1 r =>
  k0 xm_1 r true
 else
 bif (e.Kind==2) then
  s_MakeNode n xm e.Path 2 fun xm_2 r_1 =>
  k0 xm_2 r_1 true
 else
 bif (e.Kind==3) then
  s_WriteText n xm e.Path e.At e.Text fun xm_3 r_2 =>
  k0 xm_3 r_2 true
 else
 bif (e.Kind==4) then
  s_RemoveNode n xm e.Path fun xm_4 r_3 =>
  k0 xm_4 r_3 true
 else
 bif (e.Kind==5) then
  s_MoveFile n xm e.Path e.To fun xm_5 r_4 =>
  k0 xm_5 r_4 true
 else
 k0 xm 0 false
def s_l14Sorted_l6 (q0:(List Node)->Option R):Nat->Int->(List Node)->Option R
 | 0,_,_=>none
 | m+1,xk,out =>
  chk (!(decide (0<xk))||(inR (w64 (xk-1)) out.length)) <|
  chk (!(decide (0<xk))||(inR xk out.length)) <|
  bif (decide (0<xk))&&(sLt ((out.getD xk.toNat dNode).Path) ((out.getD ((w64 (xk-1)).toNat) dNode).Path)) then
  chk (inR xk out.length) <|
  let el:=(out.getD xk.toNat dNode)
  chk (inR (w64 (xk-1)) out.length) <|
  let el_1:=(out.getD ((w64 (xk-1)).toNat) dNode)
  chk (inR xk out.length) <|
  let row:=(out.set xk.toNat el_1)
  chk (inR (w64 (xk-1)) row.length) <|
  let row_1:=(row.set ((w64 (xk-1)).toNat) el)
  s_l14Sorted_l6 q0 m (w64 (xk-1)) row_1
  else
  q0 out
def s_l14Sorted_l3 (q0:(List Node)->Option R):Nat->Int->(List Node)->Option R
 | 0,_,_=>none
 | m+1,i,out =>
  bif (decide (i<(out.length:Int))) then
  s_l14Sorted_l6 (fun out_1 =>
   s_l14Sorted_l3 q0 m (w64 (i+1)) out_1) m i out
  else
  q0 out
def s_l14Sorted (n:Nat) (list:List Node) (k0:(List Node)->Option R):Option R :=
 let row:=(([])++list)
 chk (lenOk row) <|
 s_l14Sorted_l3 (fun out =>
  k0 out) n 1 row
def s_l17Below (p:ByteArray) (top:ByteArray) (k0:Bool->Option R):Option R :=
 chk (!((!(p==top))&&(decide ((top.size:Int)<(p.size:Int))))||(loOk (w64 ((top.size:Int)+1)) p.size)) <|
 chk (!((!(p==top))&&(decide ((top.size:Int)<(p.size:Int))))||(sizeOk top (S [47]))) <|
 k0 ((p==top)||((decide ((top.size:Int)<(p.size:Int)))&&((p.extract 0 ((w64 ((top.size:Int)+1)).toNat))==(top++(S [47])))))
def s_ModelAfter_l8 (v_1:ByteArray) (v_3:Int) (v_4:ByteArray) (q0:(List Node)->Option R):Nat->Int->(List Node)->Option R
 | 0,_,_=>none
 | m+1,i,out =>
  bif (decide (i<(out.length:Int))) then
  chk (inR i out.length) <|
  chk (!(!(!(((out.getD i.toNat dNode).Path)==v_1)))||(inR i out.length)) <|
  bif (!(((out.getD i.toNat dNode).Path)==v_1))||((out.getD i.toNat dNode).Dir) then
   s_ModelAfter_l8 v_1 v_3 v_4 q0 m (w64 (i+1)) out
  else
  bif (v_3==0) then
   chk (inR i out.length) <|
   let row:=(out.set i.toNat ⟨(out.getD i.toNat dNode).Path,(out.getD i.toNat dNode).Dir,v_4,(out.getD i.toNat dNode).Tail⟩)
   s_ModelAfter_l8 v_1 v_3 v_4 q0 m (w64 (i+1)) row
  else
  chk (inR i out.length) <|
  let row_1:=(out.set i.toNat ⟨(out.getD i.toNat dNode).Path,(out.getD i.toNat dNode).Dir,(out.getD i.toNat dNode).Head,v_4⟩)
  s_ModelAfter_l8 v_1 v_3 v_4 q0 m (w64 (i+1)) row_1
  else
  q0 out
def s_ModelAfter_l17 (v_1:ByteArray) (out:List Node) (q0:(List Node)->Option R):Nat->Int->(List Node)->Option R
 | 0,_,_=>none
 | m+1,i,rest =>
  bif (decide (i<(out.length:Int))) then
  chk (inR i out.length) <|
  s_l17Below ((out.getD i.toNat dNode).Path) v_1 fun r =>
  bif !r then
   chk (inR i out.length) <|
   let el:=(out.getD i.toNat dNode)
   let row:=(rest++([el]))
   chk (lenOk row) <|
   s_ModelAfter_l17 v_1 out q0 m (w64 (i+1)) row
  else
  s_ModelAfter_l17 v_1 out q0 m (w64 (i+1)) rest
  else
  q0 rest
def s_ModelAfter_l24 (v_1:ByteArray) (v_2:ByteArray) (q0:(List Node)->Option R):Nat->Int->(List Node)->Option R
 | 0,_,_=>none
 | m+1,i,out =>
  bif (decide (i<(out.length:Int))) then
  chk (inR i out.length) <|
  chk (!(((out.getD i.toNat dNode).Path)==v_1)||(inR i out.length)) <|
  bif (((out.getD i.toNat dNode).Path)==v_1)&&(!((out.getD i.toNat dNode).Dir)) then
   chk (inR i out.length) <|
   let row:=(out.set i.toNat ⟨v_2,(out.getD i.toNat dNode).Dir,(out.getD i.toNat dNode).Head,(out.getD i.toNat dNode).Tail⟩)
   s_ModelAfter_l24 v_1 v_2 q0 m (w64 (i+1)) row
  else
  s_ModelAfter_l24 v_1 v_2 q0 m (w64 (i+1)) out
  else
  q0 out
def s_ModelAfter (n:Nat) (list:List Node) (e:Event) (k0:(List Node)->Option R):Option R :=
 let row:=(([])++list)
 chk (lenOk row) <|
 bif (e.Kind==1) then
  bif (e.Kind==1) then
  let row_1:=(row++([⟨e.Path,(e.Kind==2),eS,eS⟩]))
  chk (lenOk row_1) <|
  s_l14Sorted n row_1 fun r =>
  k0 r
  else
  bif (e.Kind==3) then
  s_ModelAfter_l8 e.Path e.At e.Text (fun out =>
   k0 out) n 0 row
  else
  bif (e.Kind==4) then
  s_ModelAfter_l17 e.Path row (fun rest =>
   k0 rest) n 0 ([])
  else
  bif (e.Kind==5) then
  s_ModelAfter_l24 e.Path e.To (fun out_1 =>
   s_l14Sorted n out_1 fun r_1 =>
   k0 r_1) n 0 row
  else
  k0 row
 else
 bif (e.Kind==2) then
  let row_2:=(row++([⟨e.Path,(e.Kind==2),eS,eS⟩]))
  chk (lenOk row_2) <|
  s_l14Sorted n row_2 fun r_2 =>
  k0 r_2
 else
 bif (e.Kind==3) then
  s_ModelAfter_l8 e.Path e.At e.Text (fun out_2 =>
  k0 out_2) n 0 row
 else
 bif (e.Kind==4) then
  s_ModelAfter_l17 e.Path row (fun rest_1 =>
  k0 rest_1) n 0 ([])
 else
 bif (e.Kind==5) then
  s_ModelAfter_l24 e.Path e.To (fun out_3 =>
  s_l14Sorted n out_3 fun r_3 =>
  k0 r_3) n 0 row
 else
 k0 row
def s_ImageInode_l5 (i:Int) (v_10:List Dep) (q0:(List Int)->Option R):Nat->Int->(List Int)->Option R
 | 0,_,_=>none
 | m+1,xk,v_12 =>
  bif (decide (xk<(v_10.length:Int))) then
  chk (inR xk v_10.length) <|
  let el:=(v_10.getD xk.toNat dDep)
  bif (((el.Kind==1)&&(el.Ino==i))&&(decide (0<=el.Ptr)))&&(decide (el.Ptr<(v_12.length:Int))) then
   chk (inR el.Ptr v_12.length) <|
   let row:=(v_12.set el.Ptr.toNat 0)
   s_ImageInode_l5 i v_10 q0 m (w64 (xk+1)) row
  else
  s_ImageInode_l5 i v_10 q0 m (w64 (xk+1)) v_12
  else
  q0 v_12
def s_ImageInode (n:Nat) (xm:Mem) (i:Int) (k0:Inode->Option R):Option R :=
 s_l01In i 1 (xm.Disk.Inodes.length:Int) fun r =>
 bif !r then
  s_InodeNew 0 fun i_1 =>
  k0 i_1
 else
 chk (inR (w64 (i-1)) xm.Disk.Inodes.length) <|
 let el:=(xm.Disk.Inodes.getD ((w64 (i-1)).toNat) dInode)
 s_l03Copy el fun i_2 =>
 s_ImageInode_l5 i xm.Deps (fun v =>
  k0 ⟨i_2.Kind,i_2.Links,v⟩) n 0 i_2.Ptrs
def s_ImageBlock_l5 (p:Int) (v_10:List Dep) (q0:(List Slot)->Option R):Nat->Int->(List Slot)->Option R
 | 0,_,_=>none
 | m+1,xk,v_12 =>
  bif (decide (xk<(v_10.length:Int))) then
  chk (inR xk v_10.length) <|
  let el:=(v_10.getD xk.toNat dDep)
  bif ((!(el.Block==p))||(decide (el.Slot<0)))||(decide ((v_12.length:Int)<=el.Slot)) then
   s_ImageBlock_l5 p v_10 q0 m (w64 (xk+1)) v_12
  else
  bif (el.Kind==2) then
   chk (inR el.Slot v_12.length) <|
   let row:=(v_12.set el.Slot.toNat ⟨eS,0⟩)
   bif (el.Kind==4)&&(decide (0<el.After)) then
   chk (inR el.Slot row.length) <|
   let row_1:=(row.set el.Slot.toNat ⟨el.Name,el.Ino⟩)
   s_ImageBlock_l5 p v_10 q0 m (w64 (xk+1)) row_1
   else
   s_ImageBlock_l5 p v_10 q0 m (w64 (xk+1)) row
  else
  bif (el.Kind==4)&&(decide (0<el.After)) then
   chk (inR el.Slot v_12.length) <|
   let row_2:=(v_12.set el.Slot.toNat ⟨el.Name,el.Ino⟩)
   s_ImageBlock_l5 p v_10 q0 m (w64 (xk+1)) row_2
  else
  s_ImageBlock_l5 p v_10 q0 m (w64 (xk+1)) v_12
  else
  q0 v_12
def s_ImageBlock (n:Nat) (xm:Mem) (p:Int) (k0:Block->Option R):Option R :=
 s_l01In p 1 (xm.Disk.Blocks.length:Int) fun r =>
 bif !r then
  k0 ⟨false,[],eS⟩
 else
 chk (inR (w64 (p-1)) xm.Disk.Blocks.length) <|
 let el:=(xm.Disk.Blocks.getD ((w64 (p-1)).toNat) dBlock)
 s_l04Copy el fun b =>
 s_ImageBlock_l5 p xm.Deps (fun v =>
  k0 ⟨b.Dir,v,b.Text⟩) n 0 b.Slots
def s_UnitText (n:Nat) (d:Disk) (u:Int) (k0:ByteArray->Bool->Option R):Option R :=
 s_DiskOk n d fun r =>
 s_l01In u 0 20 fun r_1 =>
 let z:=bif !(!r) then r_1 else false
 bif (!r)||(!z) then
  k0 eS false
 else
 s_l07Unit n d u fun r_2 =>
 k0 r_2 true
def s_ImageUnit_l5 (n:Nat) (v:Int) (v_1:List Bool) (v_2:List Bool) (v_3:List Inode) (v_4:List Block) (v_5:List Bool) (v_6:List Dep) (q0:(List Inode)->Option R):Nat->Int->(List Inode)->Option R
 | 0,_,_=>none
 | m+1,i,v_9 =>
  bif (decide (i<=8)) then
  s_ImageInode n ⟨⟨⟨v_1,v_2⟩,v_3,v_4⟩,v_5,v_6,v⟩ i fun i_1 =>
  chk (inR (w64 (i-1)) v_9.length) <|
  let row:=(v_9.set ((w64 (i-1)).toNat) i_1)
  s_ImageUnit_l5 n v v_1 v_2 v_3 v_4 v_5 v_6 q0 m (w64 (i+1)) row
  else
  q0 v_9
def s_ImageUnit_l9 (n:Nat) (v:Int) (v_1:List Bool) (v_2:List Bool) (v_3:List Inode) (v_4:List Block) (v_5:List Bool) (v_6:List Dep) (q0:(List Block)->Option R):Nat->Int->(List Block)->Option R
 | 0,_,_=>none
 | m+1,p,v_10 =>
  bif (decide (p<=16)) then
  s_ImageBlock n ⟨⟨⟨v_1,v_2⟩,v_3,v_4⟩,v_5,v_6,v⟩ p fun b =>
  chk (inR (w64 (p-1)) v_10.length) <|
  let row:=(v_10.set ((w64 (p-1)).toNat) b)
  s_ImageUnit_l9 n v v_1 v_2 v_3 v_4 v_5 v_6 q0 m (w64 (p+1)) row
  else
  q0 v_10
def s_ImageUnit (n:Nat) (xm:Mem) (u:Int) (k0:ByteArray->Bool->Option R):Option R :=
 s_MemOk n xm fun r =>
 s_l01In u 0 20 fun r_1 =>
 let z:=bif !(!r) then r_1 else false
 bif (!r)||(!z) then
  k0 eS false
 else
 s_l07Copy n xm.Disk fun d =>
 s_ImageUnit_l5 n xm.Next xm.Disk.Bits.Blocks xm.Disk.Bits.Inos xm.Disk.Inodes xm.Disk.Blocks xm.Dirty xm.Deps (fun v =>
  s_ImageUnit_l9 n xm.Next xm.Disk.Bits.Blocks xm.Disk.Bits.Inos xm.Disk.Inodes xm.Disk.Blocks xm.Dirty xm.Deps (fun v_1 =>
  s_UnitText n ⟨d.Bits,v,v_1⟩ u fun r_2 r_3 =>
  k0 r_2 r_3) n 1 d.Blocks) n 1 d.Inodes
def s_DeviceOk_l2 (v:List ByteArray) (q0:Bool->Option R) (q1:Option R):Nat->Int->Option R
 | 0,_=>none
 | m+1,i =>
  bif (decide (i<(v.length:Int))) then
  chk (inR i v.length) <|
  bif (decide (60<((v.getD i.toNat eS).size:Int))) then
   q0 false
  else
  s_DeviceOk_l2 v q0 q1 m (w64 (i+1))
  else
  q1
def s_DeviceOk (n:Nat) (d:Device) (k0:Bool->Option R):Option R :=
 s_DeviceOk_l2 d.Units (fun x =>
  k0 x) (
  k0 ((d.Units.length:Int)==21)) n 0
def s_FsOk (n:Nat) (f:Fs) (k0:Bool->Option R):Option R :=
 s_MemOk n f.Mem fun r =>
 s_DeviceOk n f.Device fun r_1 =>
 let z:=bif r then r_1 else false
 k0 (r&&z)
def s_l13Copy (n:Nat) (f:Fs) (k0:Fs->Option R):Option R :=
 s_l08Copy n f.Mem fun xm =>
 let row:=(([])++f.Device.Units)
 chk (lenOk row) <|
 k0 ⟨xm,⟨row⟩⟩
def s_WriteUnit (n:Nat) (d:Device) (u:Int) (s:ByteArray) (k0:Device->Bool->Option R):Option R :=
 let row:=(([])++d.Units)
 chk (lenOk row) <|
 s_DeviceOk n d fun r =>
 s_l01In u 0 20 fun r_1 =>
 let z:=bif !(!r) then r_1 else false
 bif ((!r)||(!z))||(decide (60<(s.size:Int))) then
  k0 ⟨row⟩ false
 else
 chk (inR u row.length) <|
 let row_1:=(row.set u.toNat s)
 k0 ⟨row_1⟩ true
def s_l10Flag_l1 (u:Int) (q0:(List Dep)->Option R):Nat->Int->(List Dep)->Option R
 | 0,_,_=>none
 | m+1,xk,deps =>
  bif (decide (xk<(deps.length:Int))) then
  chk (inR xk deps.length) <|
  let el:=(deps.getD xk.toNat dDep)
  bif (u==0)&&((el.Kind==1)||(el.Kind==2)) then
   chk (inR xk deps.length) <|
   let row:=(deps.set xk.toNat ⟨(deps.getD xk.toNat dDep).Id,(deps.getD xk.toNat dDep).Kind,(deps.getD xk.toNat dDep).Ino,(deps.getD xk.toNat dDep).Ptr,(deps.getD xk.toNat dDep).Block,(deps.getD xk.toNat dDep).Slot,(deps.getD xk.toNat dDep).Name,true,(deps.getD xk.toNat dDep).Other,(deps.getD xk.toNat dDep).After,(deps.getD xk.toNat dDep).Blocks⟩)
   s_UnitOfIno el.Ino fun r =>
   let z:=bif (el.Kind==2) then r else 0
   s_UnitOfBlock el.Block fun r_1 =>
   let z_1:=bif (!((el.Kind==2)&&(z==u)))&&(el.Kind==1) then r_1 else 0
   bif ((el.Kind==2)&&(z==u))||((el.Kind==1)&&(z_1==u)) then
   chk (inR xk row.length) <|
   let row_1:=(row.set xk.toNat ⟨(row.getD xk.toNat dDep).Id,(row.getD xk.toNat dDep).Kind,(row.getD xk.toNat dDep).Ino,(row.getD xk.toNat dDep).Ptr,(row.getD xk.toNat dDep).Block,(row.getD xk.toNat dDep).Slot,(row.getD xk.toNat dDep).Name,(row.getD xk.toNat dDep).Bits,true,(row.getD xk.toNat dDep).After,(row.getD xk.toNat dDep).Blocks⟩)
   s_l10Flag_l1 u q0 m (w64 (xk+1)) row_1
   else
   s_l10Flag_l1 u q0 m (w64 (xk+1)) row
  else
  s_UnitOfIno el.Ino fun r_2 =>
  let z_2:=bif (el.Kind==2) then r_2 else 0
  s_UnitOfBlock el.Block fun r_3 =>
  let z_3:=bif (!((el.Kind==2)&&(z_2==u)))&&(el.Kind==1) then r_3 else 0
  bif ((el.Kind==2)&&(z_2==u))||((el.Kind==1)&&(z_3==u)) then
   chk (inR xk deps.length) <|
   let row_2:=(deps.set xk.toNat ⟨(deps.getD xk.toNat dDep).Id,(deps.getD xk.toNat dDep).Kind,(deps.getD xk.toNat dDep).Ino,(deps.getD xk.toNat dDep).Ptr,(deps.getD xk.toNat dDep).Block,(deps.getD xk.toNat dDep).Slot,(deps.getD xk.toNat dDep).Name,(deps.getD xk.toNat dDep).Bits,true,(deps.getD xk.toNat dDep).After,(deps.getD xk.toNat dDep).Blocks⟩)
   s_l10Flag_l1 u q0 m (w64 (xk+1)) row_2
  else
  s_l10Flag_l1 u q0 m (w64 (xk+1)) deps
  else
  q0 deps
def s_l10Flag (n:Nat) (u:Int) (xm:Mem) (k0:Mem->Option R):Option R :=
 s_l10Flag_l1 u (fun deps =>
  k0 ⟨xm.Disk,xm.Dirty,deps,xm.Next⟩) n 0 xm.Deps
def s_l10Freed_l3 (v_10:List Int) (q0:(List Bool)->Option R):Nat->Int->(List Bool)->Option R
 | 0,_,_=>none
 | m+1,xk,bb =>
  bif (decide (xk<(v_10.length:Int))) then
  chk (inR xk v_10.length) <|
  chk (inR (w64 ((v_10.getD xk.toNat 0)-1)) bb.length) <|
  let row:=(bb.set ((w64 ((v_10.getD xk.toNat 0)-1)).toNat) false)
  s_l10Freed_l3 v_10 q0 m (w64 (xk+1)) row
  else
  q0 bb
def s_l10Freed_l10 (n:Nat) (all:List Dep) (v_10:List Int) (q0:Int->(List Bool)->(List Bool)->(List Inode)->(List Block)->(List Bool)->(List Dep)->Option R):Nat->Int->Int->(List Bool)->(List Bool)->(List Inode)->(List Block)->(List Bool)->(List Dep)->Option R
 | 0,_,_,_,_,_,_,_,_=>none
 | m+1,xk,next,bb,bi,di,db,dirty,deps =>
  bif (decide (xk<(all.length:Int))) then
  chk (inR xk all.length) <|
  chk (!(((all.getD xk.toNat dDep).Kind)==4)||(inR xk all.length)) <|
  s_l10Has n v_10 ((all.getD xk.toNat dDep).Block) fun r =>
  let z:=bif (((all.getD xk.toNat dDep).Kind)==4) then r else false
  bif (((all.getD xk.toNat dDep).Kind)==4)&&z then
   chk (inR xk all.length) <|
   s_DropDep n ⟨⟨⟨bb,bi⟩,di,db⟩,dirty,deps,next⟩ ((all.getD xk.toNat dDep).Id) fun xm =>
   chk (inR xk all.length) <|
   s_l10Lose n ((all.getD xk.toNat dDep).Ino) xm fun mo =>
   s_l10Freed_l10 n all v_10 q0 m (w64 (xk+1)) mo.Next mo.Disk.Bits.Blocks mo.Disk.Bits.Inos mo.Disk.Inodes mo.Disk.Blocks mo.Dirty mo.Deps
  else
  s_l10Freed_l10 n all v_10 q0 m (w64 (xk+1)) next bb bi di db dirty deps
  else
  q0 next bb bi di db dirty deps
def s_l10Freed (n:Nat) (d:Dep) (xm:Mem) (k0:Mem->Option R):Option R :=
 s_DropDep n xm d.Id fun xm_1 =>
 s_l10Freed_l3 d.Blocks (fun bb =>
  chk (inR (w64 (d.Ino-1)) xm_1.Disk.Bits.Inos.length) <|
  let row:=(xm_1.Disk.Bits.Inos.set ((w64 (d.Ino-1)).toNat) false)
  s_l08Mark 0 ⟨⟨⟨bb,row⟩,xm_1.Disk.Inodes,xm_1.Disk.Blocks⟩,xm_1.Dirty,xm_1.Deps,xm_1.Next⟩ fun mo =>
  s_l10Freed_l10 n xm_1.Deps d.Blocks (fun next bb_1 bi di db dirty deps =>
  k0 ⟨⟨⟨bb_1,bi⟩,di,db⟩,dirty,deps,next⟩) n 0 mo.Next bb row xm_1.Disk.Inodes xm_1.Disk.Blocks mo.Dirty xm_1.Deps) n 0 xm_1.Disk.Bits.Blocks
def s_l10Pending_l2 (block:Int) (list:List Dep) (q0:Bool->Option R) (q1:Option R):Nat->Int->Option R
 | 0,_=>none
 | m+1,xk =>
  bif (decide (xk<(list.length:Int))) then
  chk (inR xk list.length) <|
  chk (!(!(((list.getD xk.toNat dDep).Kind)==1))||(inR xk list.length)) <|
  chk (!((((list.getD xk.toNat dDep).Kind)==1)||(((list.getD xk.toNat dDep).Kind)==6))||(inR xk list.length)) <|
  bif ((((list.getD xk.toNat dDep).Kind)==1)||(((list.getD xk.toNat dDep).Kind)==6))&&(((list.getD xk.toNat dDep).Block)==block) then
   q0 true
  else
  s_l10Pending_l2 block list q0 q1 m (w64 (xk+1))
  else
  q1
def s_l10Pending (n:Nat) (list:List Dep) (block:Int) (k0:Bool->Option R):Option R :=
 s_l10Pending_l2 block list (fun x =>
  k0 x) (
  k0 false) n 0
def s_l10Ready_l3 (n:Nat) (before:List Dep) (bb:List Bool) (bi:List Bool) (di:List Inode) (db:List Block) (deps:List Dep) (q0:Int->(List Dep)->(List Bool)->Option R):Nat->Int->Int->(List Dep)->(List Bool)->Option R
 | 0,_,_,_,_=>none
 | m+1,xk,next,list,dirty =>
  bif (decide (xk<(before.length:Int))) then
  chk (inR xk before.length) <|
  let el:=(before.getD xk.toNat dDep)
  bif ((el.Kind==1)&&el.Bits)&&el.Other then
   s_UnitOfIno el.Ino fun r =>
   s_l08Mark r ⟨⟨⟨bb,bi⟩,di,db⟩,dirty,deps,next⟩ fun mo =>
   s_l10Pending n before el.Block fun r_1 =>
   let z:=bif false then r_1 else false
   let row:=(list++([⟨el.Id,6,el.Ino,el.Ptr,el.Block,el.Slot,el.Name,el.Bits,el.Other,el.After,(before.getD xk.toNat dDep).Blocks⟩]))
   chk (lenOk row) <|
   s_l10Ready_l3 n before bb bi di db deps q0 m (w64 (xk+1)) mo.Next row mo.Dirty
  else
  s_l10Pending n before el.Block fun r_2 =>
  let z_1:=bif ((el.Kind==2)&&el.Bits)&&el.Other then r_2 else false
  bif (((el.Kind==2)&&el.Bits)&&el.Other)&&(!z_1) then
   s_UnitOfBlock el.Block fun r_3 =>
   s_l08Mark r_3 ⟨⟨⟨bb,bi⟩,di,db⟩,dirty,deps,next⟩ fun mo_1 =>
   let row_1:=(list++([⟨el.Id,3,el.Ino,el.Ptr,el.Block,el.Slot,el.Name,el.Bits,el.Other,el.After,(before.getD xk.toNat dDep).Blocks⟩]))
   chk (lenOk row_1) <|
   s_l10Ready_l3 n before bb bi di db deps q0 m (w64 (xk+1)) mo_1.Next row_1 mo_1.Dirty
  else
  let row_2:=(list++([el]))
  chk (lenOk row_2) <|
  s_l10Ready_l3 n before bb bi di db deps q0 m (w64 (xk+1)) next row_2 dirty
  else
  q0 next list dirty
def s_l10Ready (n:Nat) (xm:Mem) (k0:Mem->Option R):Option R :=
 let row:=(([])++xm.Deps)
 chk (lenOk row) <|
 s_l10Ready_l3 n row xm.Disk.Bits.Blocks xm.Disk.Bits.Inos xm.Disk.Inodes xm.Disk.Blocks xm.Deps (fun next list dirty =>
  k0 ⟨xm.Disk,dirty,list,next⟩) n 0 xm.Next ([]) xm.Dirty
def s_Done_l8 (n:Nat) (u:Int) (before:List Dep) (q0:Int->(List Bool)->(List Bool)->(List Inode)->(List Block)->(List Bool)->(List Dep)->Option R):Nat->Int->Int->(List Bool)->(List Bool)->(List Inode)->(List Block)->(List Bool)->(List Dep)->Option R
 | 0,_,_,_,_,_,_,_,_=>none
 | m+1,xk,v_1,v_8,v_9,v_10,v_11,v_12,v_13 =>
  bif (decide (xk<(before.length:Int))) then
  chk (inR xk before.length) <|
  let el:=(before.getD xk.toNat dDep)
  s_UnitOfIno el.Ino fun r =>
  let z:=bif (el.Kind==6) then r else 0
  bif (el.Kind==6)&&(z==u) then
   s_DropDep n ⟨⟨⟨v_8,v_9⟩,v_10,v_11⟩,v_12,v_13,v_1⟩ el.Id fun xm =>
   s_Done_l8 n u before q0 m (w64 (xk+1)) xm.Next xm.Disk.Bits.Blocks xm.Disk.Bits.Inos xm.Disk.Inodes xm.Disk.Blocks xm.Dirty xm.Deps
  else
  s_UnitOfIno el.Ino fun r_1 =>
  let z_1:=bif (el.Kind==5) then r_1 else 0
  bif (el.Kind==5)&&(z_1==u) then
   s_l10Freed n el ⟨⟨⟨v_8,v_9⟩,v_10,v_11⟩,v_12,v_13,v_1⟩ fun mo =>
   s_Done_l8 n u before q0 m (w64 (xk+1)) mo.Next mo.Disk.Bits.Blocks mo.Disk.Bits.Inos mo.Disk.Inodes mo.Disk.Blocks mo.Dirty mo.Deps
  else
  s_UnitOfBlock el.Block fun r_2 =>
  let z_2:=bif (el.Kind==3) then r_2 else 0
  bif (el.Kind==3)&&(z_2==u) then
   s_l10Shown n el.Id 0 ⟨⟨⟨v_8,v_9⟩,v_10,v_11⟩,v_12,v_13,v_1⟩ fun mo_1 =>
   s_Done_l8 n u before q0 m (w64 (xk+1)) mo_1.Next mo_1.Disk.Bits.Blocks mo_1.Disk.Bits.Inos mo_1.Disk.Inodes mo_1.Disk.Blocks mo_1.Dirty mo_1.Deps
  else
  s_UnitOfBlock el.Block fun r_3 =>
  let z_3:=bif (el.Kind==4)&&(el.After==0) then r_3 else 0
  bif ((el.Kind==4)&&(el.After==0))&&(z_3==u) then
   s_DropDep n ⟨⟨⟨v_8,v_9⟩,v_10,v_11⟩,v_12,v_13,v_1⟩ el.Id fun xm_1 =>
   s_l10Lose n el.Ino xm_1 fun mo_2 =>
   s_Done_l8 n u before q0 m (w64 (xk+1)) mo_2.Next mo_2.Disk.Bits.Blocks mo_2.Disk.Bits.Inos mo_2.Disk.Inodes mo_2.Disk.Blocks mo_2.Dirty mo_2.Deps
  else
  s_Done_l8 n u before q0 m (w64 (xk+1)) v_1 v_8 v_9 v_10 v_11 v_12 v_13
  else
  q0 v_1 v_8 v_9 v_10 v_11 v_12 v_13
def s_Done (n:Nat) (xm:Mem) (u:Int) (k0:Mem->Option R):Option R :=
 s_l08Copy n xm fun xm_1 =>
 s_MemOk n xm fun r =>
 s_l01In u 0 20 fun r_1 =>
 let z:=bif !(!r) then r_1 else false
 bif (!r)||(!z) then
  k0 xm_1
 else
 chk (inR u xm_1.Dirty.length) <|
 let row:=(xm_1.Dirty.set u.toNat false)
 s_l10Flag n u ⟨xm_1.Disk,row,xm_1.Deps,xm_1.Next⟩ fun mo =>
 s_Done_l8 n u xm.Deps (fun v v_1 v_2 v_3 v_4 v_5 v_6 =>
  s_l10Ready n ⟨⟨⟨v_1,v_2⟩,v_3,v_4⟩,v_5,v_6,v⟩ fun mo_1 =>
  k0 mo_1) n 0 mo.Next mo.Disk.Bits.Blocks mo.Disk.Bits.Inos mo.Disk.Inodes mo.Disk.Blocks mo.Dirty mo.Deps
def s_WriteBack (n:Nat) (f:Fs) (u:Int) (k0:Fs->Bool->Option R):Option R :=
 s_ImageUnit n f.Mem u fun r r_1 =>
 s_FsOk n f fun r_2 =>
 bif (!r_2)||(!r_1) then
  s_l13Copy n f fun f_1 =>
  k0 f_1 false
 else
 s_WriteUnit n f.Device u r fun d r_3 =>
 bif !r_3 then
  s_l13Copy n f fun f_2 =>
  k0 f_2 false
 else
 s_Done n f.Mem u fun xm =>
 k0 ⟨xm,d⟩ true
def s_Flush_l6 (v_13:List Bool) (q0:Int->Option R):Nat->Int->Option R
 | 0,_=>none
 | m+1,u =>
  chk (!(decide (u<(v_13.length:Int)))||(inR u v_13.length)) <|
  bif (decide (u<(v_13.length:Int)))&&(!(v_13.getD u.toNat false)) then
  s_Flush_l6 v_13 q0 m (w64 (u+1))
  else
  q0 u
def s_Flush_l6f1 (v_13:List Bool) (q0:Int->Option R):Nat->Int->Option R
 | 0,_=>none
 | m+1,u =>
  chk (!(decide (u<(v_13.length:Int)))||(inR u v_13.length)) <|
  bif (decide (u<(v_13.length:Int)))&&(!(v_13.getD u.toNat false)) then
  s_Flush_l6f1 v_13 q0 m (w64 (u+1))
  else
  q0 u
def s_Flush_l3 (n:Nat) (q0:Int->(List Bool)->(List Bool)->(List Inode)->(List Block)->(List Bool)->(List Dep)->(List ByteArray)->Option R) (q1:Int->(List Bool)->(List Bool)->(List Inode)->(List Block)->(List Bool)->(List Dep)->(List ByteArray)->Option R):Nat->Int->Int->(List Bool)->(List Bool)->(List Inode)->(List Block)->(List Bool)->(List Dep)->(List ByteArray)->Option R
 | 0,_,_,_,_,_,_,_,_,_=>none
 | m+1,i,v_1,v_9,v_10,v_11,v_12,v_13,v_14,v_15 =>
  bif (decide (i<400)) then
  s_Flush_l6f1 v_13 (fun u =>
   bif (u==(v_13.length:Int)) then
   q0 v_1 v_9 v_10 v_11 v_12 v_13 v_14 v_15
   else
   s_WriteBack n ⟨⟨⟨⟨v_9,v_10⟩,v_11,v_12⟩,v_13,v_14,v_1⟩,⟨v_15⟩⟩ u fun f r =>
   bif !r then
   q0 v_1 v_9 v_10 v_11 v_12 v_13 v_14 v_15
   else
   s_Flush_l3 n q0 q1 m (w64 (i+1)) f.Mem.Next f.Mem.Disk.Bits.Blocks f.Mem.Disk.Bits.Inos f.Mem.Disk.Inodes f.Mem.Disk.Blocks f.Mem.Dirty f.Mem.Deps f.Device.Units) m 0
  else
  q1 v_1 v_9 v_10 v_11 v_12 v_13 v_14 v_15
def s_Flush (n:Nat) (f:Fs) (k0:Fs->Option R):Option R :=
 s_l13Copy n f fun f_1 =>
 s_Flush_l3 n (fun v v_1 v_2 v_3 v_4 v_5 v_6 v_7 =>
  k0 ⟨⟨⟨⟨v_1,v_2⟩,v_3,v_4⟩,v_5,v_6,v⟩,⟨v_7⟩⟩) (fun v_8 v_9 v_10 v_11 v_12 v_13 v_14 v_15 =>
  k0 ⟨⟨⟨⟨v_9,v_10⟩,v_11,v_12⟩,v_13,v_14,v_8⟩,⟨v_15⟩⟩) n 0 f_1.Mem.Next f_1.Mem.Disk.Bits.Blocks f_1.Mem.Disk.Bits.Inos f_1.Mem.Disk.Inodes f_1.Mem.Disk.Blocks f_1.Mem.Dirty f_1.Mem.Deps f_1.Device.Units
def s_ReadBits_l9 (i:Int) (q0:Int->Option R):Nat->Int->Int->Option R
 | 0,_,_=>none
 | m+1,xn,xk =>
  bif (decide (xk<(i.tmod 8))) then
  s_ReadBits_l9 i q0 m (w64 (xn.tdiv 2)) (w64 (xk+1))
  else
  q0 xn
def s_ReadBits_l5 (s:ByteArray) (q0:(List Bool)->(List Bool)->Option R):Nat->Int->(List Bool)->(List Bool)->Option R
 | 0,_,_,_=>none
 | m+1,i,v_2,v_3 =>
  bif (decide (i<24)) then
  chk (inR (w64 (i.tdiv 8)) s.size) <|
  s_ReadBits_l9 i (fun xn =>
   bif (decide (i<16)) then
   let row:=(v_2++([((xn.tmod 2)==1)]))
   chk (lenOk row) <|
   s_ReadBits_l5 s q0 m (w64 (i+1)) row v_3
   else
   let row_1:=(v_3++([((xn.tmod 2)==1)]))
   chk (lenOk row_1) <|
   s_ReadBits_l5 s q0 m (w64 (i+1)) v_2 row_1) m (w64 ((bt s ((w64 (i.tdiv 8)).toNat):Int))) 0
  else
  q0 v_2 v_3
def s_ReadBits (n:Nat) (s:ByteArray) (k0:Bits->Bool->Option R):Option R :=
 bif (!((s.size:Int)==3)) then
  k0 ⟨[],[]⟩ false
 else
 s_ReadBits_l5 s (fun v v_1 =>
  k0 ⟨v,v_1⟩ true) n 0 ([]) ([])
def s_ReadInode (n:Nat) (s:ByteArray) (k0:Inode->Bool->Option R):Option R :=
 bif (!((s.size:Int)==4)) then
  k0 ⟨0,0,[]⟩ false
 else
 chk (inR 0 s.size) <|
 chk (inR 1 s.size) <|
 chk (inR 2 s.size) <|
 chk (inR 3 s.size) <|
 let lit:=([(w64 ((bt s 2:Int))),(w64 ((bt s 3:Int)))]:List Int)
 s_InodeOk n ⟨(w64 ((bt s 0:Int))),(w64 ((bt s 1:Int))),lit⟩ fun r =>
 bif !r then
  k0 ⟨0,0,[]⟩ false
 else
 k0 ⟨(w64 ((bt s 0:Int))),(w64 ((bt s 1:Int))),lit⟩ true
def s_ReadVar_l6 (n:Nat) (text:ByteArray) (xat:Int) (q0:Int->Int->Bool->Option R) (q1:Option R):Nat->Int->Int->Int->Option R
 | 0,_,_,_=>none
 | m+1,xn,scale,i =>
  bif (decide (i<(text.size:Int)))&&(decide (i<(w64 (xat+5)))) then
  chk (inR i text.size) <|
  chk (inR i text.size) <|
  bif (decide ((bt text i.toNat:Int)<128)) then
   s_l01Var n (w64 (xn+(w64 (((w64 ((bt text i.toNat:Int))).tmod 128)*scale)))) fun r =>
   let z:=bif !(decide (1000000000<(w64 (xn+(w64 (((w64 ((bt text i.toNat:Int))).tmod 128)*scale)))))) then r else eS
   chk (!(!(decide (1000000000<(w64 (xn+(w64 (((w64 ((bt text i.toNat:Int))).tmod 128)*scale)))))))||(cutOk xat (w64 (i+1)) text.size)) <|
   bif (decide (1000000000<(w64 (xn+(w64 (((w64 ((bt text i.toNat:Int))).tmod 128)*scale))))))||(!(z==(text.extract xat.toNat ((w64 (i+1)).toNat)))) then
   q0 0 0 false
   else
   q0 (w64 (xn+(w64 (((w64 ((bt text i.toNat:Int))).tmod 128)*scale)))) (w64 (i+1)) true
  else
  s_ReadVar_l6 n text xat q0 q1 m (w64 (xn+(w64 (((w64 ((bt text i.toNat:Int))).tmod 128)*scale)))) (w64 (scale*128)) (w64 (i+1))
  else
  q1
def s_ReadVar (n:Nat) (text:ByteArray) (xat:Int) (k0:Int->Int->Bool->Option R):Option R :=
 s_l01In xat 0 (text.size:Int) fun r =>
 bif !r then
  k0 0 0 false
 else
 s_ReadVar_l6 n text xat (fun x x_1 x_2 =>
  k0 x x_1 x_2) (
  k0 0 0 false) n 0 1 xat
def s_ReadShort (n:Nat) (text:ByteArray) (xat:Int) (k0:ByteArray->Int->Bool->Option R):Option R :=
 s_ReadVar n text xat fun r r_1 r_2 =>
 bif ((!r_2)||(decide (20000<r)))||(decide ((w64 ((text.size:Int)-r_1))<r)) then
  k0 eS 0 false
 else
 chk (cutOk r_1 (w64 (r_1+r)) text.size) <|
 k0 (text.extract r_1.toNat ((w64 (r_1+r)).toNat)) (w64 (r_1+r)) true
def s_ReadBlock_l8 (n:Nat) (s:ByteArray) (q0:Bool->Bool->ByteArray->(List Slot)->Option R) (q1:(List Slot)->Option R):Nat->Int->Int->(List Slot)->Option R
 | 0,_,_,_=>none
 | m+1,xat,i,v_5 =>
  bif (decide (i<4))&&(decide (xat<(s.size:Int))) then
  s_ReadShort n s (w64 (xat+1)) fun r r_1 r_2 =>
  bif !r_2 then
   q0 false false eS ([])
  else
  chk (inR xat s.size) <|
  let row:=(v_5++([⟨r,(w64 ((bt s xat.toNat:Int)))⟩]))
  chk (lenOk row) <|
  s_ReadBlock_l8 n s q0 q1 m r_1 (w64 (i+1)) row
  else
  q1 v_5
def s_ReadBlock (n:Nat) (s:ByteArray) (k0:Block->Bool->Option R):Option R :=
 bif (s==eS) then
  k0 ⟨false,[],eS⟩ false
 else
 chk (loOk 1 s.size) <|
 chk (inR 0 s.size) <|
 bif ((bt s 0:Int)==100) then
  s_ReadBlock_l8 n s (fun x v v_1 v_2 =>
  k0 ⟨v,v_2,v_1⟩ x) (fun v_3 =>
  s_BlockText n ⟨true,v_3,eS⟩ fun r r_1 =>
  bif (!r_1)||(!(r==s)) then
   k0 ⟨false,[],eS⟩ false
  else
  k0 ⟨true,v_3,eS⟩ true) n 1 0 ([])
 else
 s_BlockText n ⟨false,[],(s.extract 1 s.size)⟩ fun r_2 r_3 =>
 bif (!r_3)||(!(r_2==s)) then
  k0 ⟨false,[],eS⟩ false
 else
 k0 ⟨false,[],(s.extract 1 s.size)⟩ true
def s_DiskOf_l8 (q0:(List Bool)->Option R):Nat->Int->(List Bool)->Option R
 | 0,_,_=>none
 | m+1,i,v_9 =>
  bif (decide (i<(v_9.length:Int))) then
  chk (inR i v_9.length) <|
  let row:=(v_9.set i.toNat true)
  s_DiskOf_l8 q0 m (w64 (i+1)) row
  else
  q0 v_9
def s_DiskOf_l12 (q0:(List Bool)->Option R):Nat->Int->(List Bool)->Option R
 | 0,_,_=>none
 | m+1,i,v_10 =>
  bif (decide (i<(v_10.length:Int))) then
  chk (inR i v_10.length) <|
  let row:=(v_10.set i.toNat true)
  s_DiskOf_l12 q0 m (w64 (i+1)) row
  else
  q0 v_10
def s_DiskOf_l17 (n:Nat) (v:List ByteArray) (q0:(List Inode)->Option R):Nat->Int->(List Inode)->Option R
 | 0,_,_=>none
 | m+1,i,v_7 =>
  bif (decide (i<8)) then
  chk (inR (w64 (1+(w64 (i.tdiv 2)))) v.length) <|
  s_InodeNew 0 fun i_1 =>
  bif (((v.getD ((w64 (1+(w64 (i.tdiv 2)))).toNat) eS).size:Int)==8) then
   chk (cutOk (w64 (4*(i.tmod 2))) (w64 ((w64 (4*(i.tmod 2)))+4)) (v.getD ((w64 (1+(w64 (i.tdiv 2)))).toNat) eS).size) <|
   s_ReadInode n ((v.getD ((w64 (1+(w64 (i.tdiv 2)))).toNat) eS).extract ((w64 (4*(i.tmod 2))).toNat) ((w64 ((w64 (4*(i.tmod 2)))+4)).toNat)) fun i_2 r =>
   bif r then
   let row:=(v_7++([i_2]))
   chk (lenOk row) <|
   s_DiskOf_l17 n v q0 m (w64 (i+1)) row
   else
   let row_1:=(v_7++([i_1]))
   chk (lenOk row_1) <|
   s_DiskOf_l17 n v q0 m (w64 (i+1)) row_1
  else
  let row_2:=(v_7++([i_1]))
  chk (lenOk row_2) <|
  s_DiskOf_l17 n v q0 m (w64 (i+1)) row_2
  else
  q0 v_7
def s_DiskOf_l27 (n:Nat) (v:List ByteArray) (q0:(List Block)->Option R):Nat->Int->(List Block)->Option R
 | 0,_,_=>none
 | m+1,i,v_8 =>
  bif (decide (i<16)) then
  chk (inR (w64 (5+i)) v.length) <|
  s_ReadBlock n (v.getD ((w64 (5+i)).toNat) eS) fun b r =>
  let row:=(v_8++([b]))
  chk (lenOk row) <|
  s_DiskOf_l27 n v q0 m (w64 (i+1)) row
  else
  q0 v_8
def s_DiskOf (n:Nat) (d:Device) (k0:Disk->Bool->Option R):Option R :=
 s_DeviceOk n d fun r =>
 bif !r then
  k0 ⟨⟨[],[]⟩,[],[]⟩ false
 else
 chk (inR 0 d.Units.length) <|
 s_ReadBits n (d.Units.getD 0 eS) fun b r_1 =>
 bif !r_1 then
  s_BitsNew fun b_1 =>
  s_DiskOf_l8 (fun v =>
  s_DiskOf_l12 (fun v_1 =>
   s_DiskOf_l17 n d.Units (fun v_2 =>
   s_DiskOf_l27 n d.Units (fun v_3 =>
    k0 ⟨⟨v,v_1⟩,v_2,v_3⟩ true) n 0 ([])) n 0 ([])) n 0 b_1.Inos) n 0 b_1.Blocks
 else
 s_DiskOf_l17 n d.Units (fun v_4 =>
  s_DiskOf_l27 n d.Units (fun v_5 =>
  k0 ⟨b,v_4,v_5⟩ true) n 0 ([])) n 0 ([])
def s_MendAll (n:Nat) (d:Disk) (k0:Disk->Option R):Option R:=none
def s_Mounted (n:Nat) (d:Device) (k0:Fs->Bool->Option R):Option R:=none
def s_TreeOf (n:Nat) (d:Disk) (k0:(List Node)->Option R):Option R:=none
def s_l17Do (n:Nat) (e:Event) (w:World) (k0:World->Option R):Option R :=
 s_l17Call n w.Fs.Mem e fun xm r r_1 =>
 bif r_1 then
  bif (r==0) then
  s_ModelAfter n w.Model e fun r_2 =>
  bif (e.Kind==6) then
   s_WriteBack n ⟨xm,w.Fs.Device⟩ e.At fun f r_3 =>
   let row:=(([])++w.Codes)
   chk (lenOk row) <|
   let row_1:=(row++([r]))
   chk (lenOk row_1) <|
   k0 ⟨f,r_2,row_1,w.Kept⟩
  else
  bif (e.Kind==7) then
   s_Flush n ⟨xm,w.Fs.Device⟩ fun f_1 =>
   let row_2:=(([])++r_2)
   chk (lenOk row_2) <|
   let row_3:=(([])++w.Codes)
   chk (lenOk row_3) <|
   let row_4:=(row_3++([r]))
   chk (lenOk row_4) <|
   k0 ⟨f_1,r_2,row_4,row_2⟩
  else
  bif (e.Kind==8) then
   s_DiskOf n w.Fs.Device fun d r_4 =>
   s_MendAll n d fun d_1 =>
   s_DeviceOf n d_1 fun d_2 r_5 =>
   bif r_5 then
   s_Mounted n d_2 fun f_2 r_6 =>
   s_TreeOf n f_2.Mem.Disk fun r_7 =>
   let row_5:=(([])++r_7)
   chk (lenOk row_5) <|
   let row_6:=(([])++w.Codes)
   chk (lenOk row_6) <|
   let row_7:=(row_6++([r]))
   chk (lenOk row_7) <|
   k0 ⟨f_2,r_7,row_7,row_5⟩
   else
   s_TreeOf n xm.Disk fun r_8 =>
   let row_8:=(([])++r_8)
   chk (lenOk row_8) <|
   let row_9:=(([])++w.Codes)
   chk (lenOk row_9) <|
   let row_10:=(row_9++([r]))
   chk (lenOk row_10) <|
   k0 ⟨⟨xm,w.Fs.Device⟩,r_8,row_10,row_8⟩
  else
  let row_11:=(([])++w.Codes)
  chk (lenOk row_11) <|
  let row_12:=(row_11++([r]))
  chk (lenOk row_12) <|
  k0 ⟨⟨xm,w.Fs.Device⟩,r_2,row_12,w.Kept⟩
  else
  bif (e.Kind==6) then
  s_WriteBack n ⟨xm,w.Fs.Device⟩ e.At fun f_3 r_9 =>
  let row_13:=(([])++w.Codes)
  chk (lenOk row_13) <|
  let row_14:=(row_13++([r]))
  chk (lenOk row_14) <|
  k0 ⟨f_3,w.Model,row_14,w.Kept⟩
  else
  bif (e.Kind==7) then
  s_Flush n ⟨xm,w.Fs.Device⟩ fun f_4 =>
  let row_15:=(([])++w.Model)
  chk (lenOk row_15) <|
  let row_16:=(([])++w.Codes)
  chk (lenOk row_16) <|
  let row_17:=(row_16++([r]))
  chk (lenOk row_17) <|
  k0 ⟨f_4,w.Model,row_17,row_15⟩
  else
  bif (e.Kind==8) then
  s_DiskOf n w.Fs.Device fun d_3 r_10 =>
  s_MendAll n d_3 fun d_4 =>
  s_DeviceOf n d_4 fun d_5 r_11 =>
  bif r_11 then
   s_Mounted n d_5 fun f_5 r_12 =>
   s_TreeOf n f_5.Mem.Disk fun r_13 =>
   let row_18:=(([])++r_13)
   chk (lenOk row_18) <|
   let row_19:=(([])++w.Codes)
   chk (lenOk row_19) <|
   let row_20:=(row_19++([r]))
   chk (lenOk row_20) <|
   k0 ⟨f_5,r_13,row_20,row_18⟩
  else
  s_TreeOf n xm.Disk fun r_14 =>
  let row_21:=(([])++r_14)
  chk (lenOk row_21) <|
  let row_22:=(([])++w.Codes)
  chk (lenOk row_22) <|
  let row_23:=(row_22++([r]))
  chk (lenOk row_23) <|
  k0 ⟨⟨xm,w.Fs.Device⟩,r_14,row_23,row_21⟩
  else
  let row_24:=(([])++w.Codes)
  chk (lenOk row_24) <|
  let row_25:=(row_24++([r]))
  chk (lenOk row_25) <|
  k0 ⟨⟨xm,w.Fs.Device⟩,w.Model,row_25,w.Kept⟩
 else
 bif (e.Kind==6) then
  s_WriteBack n w.Fs e.At fun f_6 r_15 =>
  let row_26:=(([])++w.Codes)
  chk (lenOk row_26) <|
  let row_27:=(row_26++([r]))
  chk (lenOk row_27) <|
  k0 ⟨f_6,w.Model,row_27,w.Kept⟩
 else
 bif (e.Kind==7) then
  s_Flush n w.Fs fun f_7 =>
  let row_28:=(([])++w.Model)
  chk (lenOk row_28) <|
  let row_29:=(([])++w.Codes)
  chk (lenOk row_29) <|
  let row_30:=(row_29++([r]))
  chk (lenOk row_30) <|
  k0 ⟨f_7,w.Model,row_30,row_28⟩
 else
 bif (e.Kind==8) then
  s_DiskOf n w.Fs.Device fun d_6 r_16 =>
  s_MendAll n d_6 fun d_7 =>
  s_DeviceOf n d_7 fun d_8 r_17 =>
  bif r_17 then
  s_Mounted n d_8 fun f_8 r_18 =>
  s_TreeOf n f_8.Mem.Disk fun r_19 =>
  let row_31:=(([])++r_19)
  chk (lenOk row_31) <|
  let row_32:=(([])++w.Codes)
  chk (lenOk row_32) <|
  let row_33:=(row_32++([r]))
  chk (lenOk row_33) <|
  k0 ⟨f_8,r_19,row_33,row_31⟩
  else
  s_TreeOf n w.Fs.Mem.Disk fun r_20 =>
  let row_34:=(([])++r_20)
  chk (lenOk row_34) <|
  let row_35:=(([])++w.Codes)
  chk (lenOk row_35) <|
  let row_36:=(row_35++([r]))
  chk (lenOk row_36) <|
  k0 ⟨w.Fs,r_20,row_36,row_34⟩
 else
 let row_37:=(([])++w.Codes)
 chk (lenOk row_37) <|
 let row_38:=(row_37++([r]))
 chk (lenOk row_38) <|
 k0 ⟨w.Fs,w.Model,row_38,w.Kept⟩
def s_l13Fs_l3 (n:Nat) (b:List UInt8) (q0:Int->Int->Int->(List Bool)->(List Bool)->(List Inode)->(List Block)->(List Bool)->(List Dep)->(List ByteArray)->(List Node)->(List Int)->(List Node)->Option R):Nat->Int->Int->Int->Int->(List Bool)->(List Bool)->(List Inode)->(List Block)->(List Bool)->(List Dep)->(List ByteArray)->(List Node)->(List Int)->(List Node)->Option R
 | 0,_,_,_,_,_,_,_,_,_,_,_,_,_,_=>none
 | m+1,i,i_1,xh,v_1,v_9,v_10,v_11,v_12,v_13,v_14,v_15,v_16,v_17,v_18 =>
  s_l01Below 24 ⟨b,i_1,xh⟩ fun r lo =>
  bif (decide (i<(w64 (4+r)))) then
  s_l17Next n ⟨⟨⟨⟨⟨v_9,v_10⟩,v_11,v_12⟩,v_13,v_14,v_1⟩,⟨v_15⟩⟩,v_16,v_17,v_18⟩ ⟨b,lo.i,lo.h⟩ fun e lo_1 =>
  s_l17Do n e ⟨⟨⟨⟨⟨v_9,v_10⟩,v_11,v_12⟩,v_13,v_14,v_1⟩,⟨v_15⟩⟩,v_16,v_17,v_18⟩ fun wo =>
  s_l13Fs_l3 n b q0 m (w64 (i+1)) lo_1.i lo_1.h wo.Fs.Mem.Next wo.Fs.Mem.Disk.Bits.Blocks wo.Fs.Mem.Disk.Bits.Inos wo.Fs.Mem.Disk.Inodes wo.Fs.Mem.Disk.Blocks wo.Fs.Mem.Dirty wo.Fs.Mem.Deps wo.Fs.Device.Units wo.Model wo.Codes wo.Kept
  else
  q0 lo.i lo.h v_1 v_9 v_10 v_11 v_12 v_13 v_14 v_15 v_16 v_17 v_18
def s_l13Fs (n:Nat) (c:Cur) (k0:Fs->Cur->Option R):Option R :=
 s_FsNew n fun f =>
 s_l13Fs_l3 n c.b (fun i xh v v_1 v_2 v_3 v_4 v_5 v_6 v_7 v_8 v_9 v_10 =>
  k0 ⟨⟨⟨⟨v_1,v_2⟩,v_3,v_4⟩,v_5,v_6,v⟩,⟨v_7⟩⟩ ⟨c.b,i,xh⟩) n 0 c.i c.h f.Mem.Next f.Mem.Disk.Bits.Blocks f.Mem.Disk.Bits.Inos f.Mem.Disk.Inodes f.Mem.Disk.Blocks f.Mem.Dirty f.Mem.Deps f.Device.Units ([]) ([]) ([])
def s_l08Mem (n:Nat) (c:Cur) (k0:Mem->Cur->Option R):Option R :=
 s_l13Fs n c fun f lo =>
 k0 f.Mem ⟨c.b,lo.i,lo.h⟩
def s_l03Inode (c:Cur) (k0:Inode->Cur->Option R):Option R :=
 let lit:=([0,1,2]:List Int)
 s_l01PickInt lit c fun r lo =>
 s_InodeNew r fun i =>
 bif (!(i.Kind==0)) then
  s_l01Below 4 ⟨c.b,lo.i,lo.h⟩ fun r_1 lo_1 =>
  s_l01Below 17 ⟨c.b,lo_1.i,lo_1.h⟩ fun r_2 lo_2 =>
  chk (inR 0 i.Ptrs.length) <|
  let row:=(i.Ptrs.set 0 r_2)
  s_l01Below 17 ⟨c.b,lo_2.i,lo_2.h⟩ fun r_3 lo_3 =>
  let lit_1:=([0,0,r_3]:List Int)
  s_l01PickInt lit_1 ⟨c.b,lo_3.i,lo_3.h⟩ fun r_4 lo_4 =>
  chk (inR 1 row.length) <|
  let row_1:=(row.set 1 r_4)
  k0 ⟨i.Kind,r_1,row_1⟩ ⟨c.b,lo_4.i,lo_4.h⟩
 else
 k0 i ⟨c.b,lo.i,lo.h⟩
def s_l01Text_l5 (xn:Int) (b:List UInt8) (q0:Int->Int->(List UInt8)->Option R):Nat->Int->Int->Int->(List UInt8)->Option R
 | 0,_,_,_,_=>none
 | m+1,i,i_1,xh,out =>
  bif (decide (i<xn)) then
  s_l01Byte ⟨b,i_1,xh⟩ fun r lo =>
  chk (byteOk (IntKind.u8.wrap (r))&&true) <|
  let row:=(out++([(UInt8.ofNat ((IntKind.u8.wrap (r)).toNat))]))
  chk (lenOk row) <|
  s_l01Text_l5 xn b q0 m (w64 (i+1)) lo.i lo.h row
  else
  q0 i_1 xh out
def s_l01Text (n:Nat) (xn:Int) (c:Cur) (k0:ByteArray->Cur->Option R):Option R :=
 bif (decide (5000<xn)) then
  s_l01Text_l5 5000 c.b (fun i xh out =>
  k0 (mkS out) ⟨c.b,i,xh⟩) n 0 c.i c.h ([])
 else
 s_l01Text_l5 xn c.b (fun i_1 xh_1 out_1 =>
  k0 (mkS out_1) ⟨c.b,i_1,xh_1⟩) n 0 c.i c.h ([])
def s_l04Block_l5 (n:Nat) (v_2:Bool) (v_3:ByteArray) (b:List UInt8) (q0:Int->Int->(List Slot)->Option R):Nat->Int->Int->Int->(List Slot)->Option R
 | 0,_,_,_,_=>none
 | m+1,i,i_1,xh,v_5 =>
  bif (decide (i<4)) then
  s_l04Name ⟨b,i_1,xh⟩ fun r lo =>
  s_l01Below 8 ⟨b,lo.i,lo.h⟩ fun r_1 lo_1 =>
  s_SlotOf n ⟨v_2,v_5,v_3⟩ r fun r_2 =>
  s_l01Once 2 ⟨b,lo_1.i,lo_1.h⟩ fun r_3 lo_2 =>
  let z:=bif (decide (r_2<0)) then r_3 else false
  let z_1:=bif (decide (r_2<0)) then lo_2.i else lo_1.i
  let z_2:=bif (decide (r_2<0)) then lo_2.h else lo_1.h
  bif (decide (r_2<0))&&z then
   chk (inR i v_5.length) <|
   let row:=(v_5.set i.toNat ⟨r,(w64 (1+r_1))⟩)
   s_l04Block_l5 n v_2 v_3 b q0 m (w64 (i+1)) z_1 z_2 row
  else
  s_l04Block_l5 n v_2 v_3 b q0 m (w64 (i+1)) z_1 z_2 v_5
  else
  q0 i_1 xh v_5
def s_l04Block (n:Nat) (c:Cur) (k0:Block->Cur->Option R):Option R :=
 s_l01Once 2 c fun r lo =>
 bif r then
  s_l01Below 17 ⟨c.b,lo.i,lo.h⟩ fun r_1 lo_1 =>
  s_l01Text n r_1 ⟨c.b,lo_1.i,lo_1.h⟩ fun r_2 lo_2 =>
  k0 ⟨false,[],r_2⟩ ⟨c.b,lo_2.i,lo_2.h⟩
 else
 s_DirNew fun b =>
 s_l04Block_l5 n b.Dir b.Text c.b (fun i xh v =>
  k0 ⟨b.Dir,v,b.Text⟩ ⟨c.b,i,xh⟩) n 0 lo.i lo.h b.Slots
def s_l07Wild_l3 (b:List UInt8) (q0:Int->Int->(List Inode)->Option R):Nat->Int->Int->Int->(List Inode)->Option R
 | 0,_,_,_,_=>none
 | m+1,i,i_1,xh,v_6 =>
  bif (decide (i<8)) then
  s_l01Once 2 ⟨b,i_1,xh⟩ fun r lo =>
  bif r then
   s_l03Inode ⟨b,lo.i,lo.h⟩ fun i_2 lo_1 =>
   chk (inR i v_6.length) <|
   let row:=(v_6.set i.toNat i_2)
   s_l07Wild_l3 b q0 m (w64 (i+1)) lo_1.i lo_1.h row
  else
  s_l07Wild_l3 b q0 m (w64 (i+1)) lo.i lo.h v_6
  else
  q0 i_1 xh v_6
def s_l07Wild_l8 (n:Nat) (b:List UInt8) (q0:Int->Int->(List Block)->Option R):Nat->Int->Int->Int->(List Block)->Option R
 | 0,_,_,_,_=>none
 | m+1,i,i_1,xh,v_7 =>
  bif (decide (i<16)) then
  s_l01Once 2 ⟨b,i_1,xh⟩ fun r lo =>
  bif r then
   s_l04Block n ⟨b,lo.i,lo.h⟩ fun b_1 lo_1 =>
   chk (inR i v_7.length) <|
   let row:=(v_7.set i.toNat b_1)
   s_l07Wild_l8 n b q0 m (w64 (i+1)) lo_1.i lo_1.h row
  else
  s_l07Wild_l8 n b q0 m (w64 (i+1)) lo.i lo.h v_7
  else
  q0 i_1 xh v_7
def s_l07Wild_l13 (b:List UInt8) (q0:Int->Int->(List Bool)->Option R):Nat->Int->Int->Int->(List Bool)->Option R
 | 0,_,_,_,_=>none
 | m+1,i,i_1,xh,v_4 =>
  bif (decide (i<16)) then
  s_l01Once 2 ⟨b,i_1,xh⟩ fun r lo =>
  chk (inR i v_4.length) <|
  let row:=(v_4.set i.toNat r)
  s_l07Wild_l13 b q0 m (w64 (i+1)) lo.i lo.h row
  else
  q0 i_1 xh v_4
def s_l07Wild_l20 (b:List UInt8) (v_6:List Inode) (q0:Int->Int->(List Block)->Option R):Nat->Int->Int->Int->(List Block)->Option R
 | 0,_,_,_,_=>none
 | m+1,i,i_1,xh,v_7 =>
  bif (decide (i<4)) then
  chk (inR 0 v_6.length) <|
  chk (inR 0 (((v_6.getD 0 dInode).Ptrs).length)) <|
  chk (inR (w64 ((((v_6.getD 0 dInode).Ptrs).getD 0 0)-1)) v_7.length) <|
  let lit:=([S [112],S [113],S [114],S [115]]:List ByteArray)
  chk (inR i lit.length) <|
  s_l01Below 8 ⟨b,i_1,xh⟩ fun r lo =>
  chk (inR i (((v_7.getD ((w64 ((((v_6.getD 0 dInode).Ptrs).getD 0 0)-1)).toNat) dBlock).Slots).length)) <|
  let row:=(v_7.set ((w64 ((((v_6.getD 0 dInode).Ptrs).getD 0 0)-1)).toNat) ⟨(v_7.getD ((w64 ((((v_6.getD 0 dInode).Ptrs).getD 0 0)-1)).toNat) dBlock).Dir,(((v_7.getD ((w64 ((((v_6.getD 0 dInode).Ptrs).getD 0 0)-1)).toNat) dBlock).Slots).set i.toNat ⟨(lit.getD i.toNat eS),(w64 (1+r))⟩),(v_7.getD ((w64 ((((v_6.getD 0 dInode).Ptrs).getD 0 0)-1)).toNat) dBlock).Text⟩)
  s_l07Wild_l20 b v_6 q0 m (w64 (i+1)) lo.i lo.h row
  else
  q0 i_1 xh v_7
def s_l07Wild (n:Nat) (c:Cur) (k0:Disk->Cur->Option R):Option R :=
 s_DiskNew n fun d =>
 s_l07Wild_l3 c.b (fun i xh v =>
  s_l07Wild_l8 n c.b (fun i_1 xh_1 v_1 =>
  s_l07Wild_l13 c.b (fun i_2 xh_2 v_2 =>
   s_l01Once 6 ⟨c.b,i_2,xh_2⟩ fun r lo =>
   bif !r then
   s_l01Below 16 ⟨c.b,lo.i,lo.h⟩ fun r_1 lo_1 =>
   s_l01Below 17 ⟨c.b,lo_1.i,lo_1.h⟩ fun r_2 lo_2 =>
   let lit:=([(w64 (1+r_1)),r_2]:List Int)
   chk (inR 0 v.length) <|
   let row:=(v.set 0 ⟨2,1,lit⟩)
   chk (inR 0 row.length) <|
   chk (inR 0 (((row.getD 0 dInode).Ptrs).length)) <|
   s_DirNew fun b =>
   chk (inR (w64 ((((row.getD 0 dInode).Ptrs).getD 0 0)-1)) v_1.length) <|
   let row_1:=(v_1.set ((w64 ((((row.getD 0 dInode).Ptrs).getD 0 0)-1)).toNat) b)
   s_l07Wild_l20 c.b row (fun i_3 xh_3 v_3 =>
    k0 ⟨⟨v_2,d.Bits.Inos⟩,row,v_3⟩ ⟨c.b,i_3,xh_3⟩) n 0 lo_2.i lo_2.h row_1
   else
   k0 ⟨⟨v_2,d.Bits.Inos⟩,v,v_1⟩ ⟨c.b,lo.i,lo.h⟩) n 0 i_1 xh_1 d.Bits.Blocks) n 0 i xh d.Blocks) n 0 c.i c.h d.Inodes
def s_l07Disk (n:Nat) (c:Cur) (k0:Disk->Cur->Option R):Option R :=
 s_l01Once 3 c fun r lo =>
 bif r then
  s_l07Wild n ⟨c.b,lo.i,lo.h⟩ fun d lo_1 =>
  k0 d ⟨c.b,lo_1.i,lo_1.h⟩
 else
 s_l13Fs n ⟨c.b,lo.i,lo.h⟩ fun f lo_2 =>
 s_l01Once 2 ⟨c.b,lo_2.i,lo_2.h⟩ fun r_1 lo_3 =>
 bif r_1 then
  s_l07Copy n f.Mem.Disk fun d_1 =>
  k0 d_1 ⟨c.b,lo_3.i,lo_3.h⟩
 else
 s_DiskOf n f.Device fun d_2 r_2 =>
 k0 d_2 ⟨c.b,lo_3.i,lo_3.h⟩
def s_l05Bits_l3 (b:List UInt8) (q0:Int->Int->(List Bool)->Option R):Nat->Int->Int->Int->(List Bool)->Option R
 | 0,_,_,_,_=>none
 | m+1,i,i_1,xh,v_2 =>
  bif (decide (i<(v_2.length:Int))) then
  s_l01Once 2 ⟨b,i_1,xh⟩ fun r lo =>
  chk (inR i v_2.length) <|
  let row:=(v_2.set i.toNat r)
  s_l05Bits_l3 b q0 m (w64 (i+1)) lo.i lo.h row
  else
  q0 i_1 xh v_2
def s_l05Bits_l7 (b:List UInt8) (q0:Int->Int->(List Bool)->Option R):Nat->Int->Int->Int->(List Bool)->Option R
 | 0,_,_,_,_=>none
 | m+1,i,i_1,xh,v_3 =>
  bif (decide (i<(v_3.length:Int))) then
  s_l01Once 2 ⟨b,i_1,xh⟩ fun r lo =>
  chk (inR i v_3.length) <|
  let row:=(v_3.set i.toNat r)
  s_l05Bits_l7 b q0 m (w64 (i+1)) lo.i lo.h row
  else
  q0 i_1 xh v_3
def s_l05Bits (n:Nat) (c:Cur) (k0:Bits->Cur->Option R):Option R :=
 s_BitsNew fun b =>
 s_l05Bits_l3 c.b (fun i xh v =>
  s_l05Bits_l7 c.b (fun i_1 xh_1 v_1 =>
  s_l01Once 10 ⟨c.b,i_1,xh_1⟩ fun r lo =>
  bif r then
   chk (loOk 1 v.length) <|
   s_l01Once 10 ⟨c.b,lo.i,lo.h⟩ fun r_1 lo_1 =>
   bif r_1 then
   let row:=(v_1++([true]))
   chk (lenOk row) <|
   k0 ⟨(sub v 1 (v.length-1)),row⟩ ⟨c.b,lo_1.i,lo_1.h⟩
   else
   k0 ⟨(sub v 1 (v.length-1)),v_1⟩ ⟨c.b,lo_1.i,lo_1.h⟩
  else
  s_l01Once 10 ⟨c.b,lo.i,lo.h⟩ fun r_2 lo_2 =>
  bif r_2 then
   let row_1:=(v_1++([true]))
   chk (lenOk row_1) <|
   k0 ⟨v,row_1⟩ ⟨c.b,lo_2.i,lo_2.h⟩
  else
  k0 ⟨v,v_1⟩ ⟨c.b,lo_2.i,lo_2.h⟩) n 0 i xh b.Inos) n 0 c.i c.h b.Blocks
def s_l03Any (c:Cur) (k0:Inode->Cur->Option R):Option R :=
 s_l03Inode c fun i lo =>
 s_l01Below 12 ⟨c.b,lo.i,lo.h⟩ fun r lo_1 =>
 bif (r==0) then
  let lit:=([-1,0,3]:List Int)
  s_l01PickInt lit ⟨c.b,lo_1.i,lo_1.h⟩ fun r_1 lo_2 =>
  k0 ⟨r_1,i.Links,i.Ptrs⟩ ⟨c.b,lo_2.i,lo_2.h⟩
 else
 bif (r==1) then
  let lit_1:=([-1,0,200,201]:List Int)
  s_l01PickInt lit_1 ⟨c.b,lo_1.i,lo_1.h⟩ fun r_2 lo_3 =>
  k0 ⟨i.Kind,r_2,i.Ptrs⟩ ⟨c.b,lo_3.i,lo_3.h⟩
 else
 bif (r==2) then
  let lit_2:=([-1,16,17]:List Int)
  s_l01PickInt lit_2 ⟨c.b,lo_1.i,lo_1.h⟩ fun r_3 lo_4 =>
  chk (inR 0 i.Ptrs.length) <|
  let row:=(i.Ptrs.set 0 r_3)
  k0 ⟨i.Kind,i.Links,row⟩ ⟨c.b,lo_4.i,lo_4.h⟩
 else
 bif (r==3) then
  chk (loOk 1 i.Ptrs.length) <|
  k0 ⟨i.Kind,i.Links,(sub i.Ptrs 1 (i.Ptrs.length-1))⟩ ⟨c.b,lo_1.i,lo_1.h⟩
 else
 k0 i ⟨c.b,lo_1.i,lo_1.h⟩
def s_l01Long_l3 (xn:Int) (x:Int) (q0:(List UInt8)->Option R):Nat->Int->(List UInt8)->Option R
 | 0,_,_=>none
 | m+1,i,out =>
  bif (decide (i<xn)) then
  chk (inR i out.length) <|
  let row:=(out.set i.toNat (UInt8.ofNat x.toNat))
  chk (byteOk x) <|
  s_l01Long_l3 xn x q0 m (w64 (i+1)) row
  else
  q0 out
def s_l01Long (n:Nat) (xn:Int) (x:Int) (k0:ByteArray->Option R):Option R :=
 chk (mkOk xn xn) <|
 s_l01Long_l3 xn x (fun out =>
  k0 (mkS out)) n 0 (List.replicate xn.toNat 0)
def s_l04Any (n:Nat) (c:Cur) (k0:Block->Cur->Option R):Option R :=
 s_l04Block n c fun b lo =>
 s_l04Copy b fun b_1 =>
 s_l01Below 12 ⟨c.b,lo.i,lo.h⟩ fun r lo_1 =>
 bif (r==0) then
  k0 ⟨!b_1.Dir,b_1.Slots,b_1.Text⟩ ⟨c.b,lo_1.i,lo_1.h⟩
 else
 bif (r==1) then
  s_l01Below 2 ⟨c.b,lo_1.i,lo_1.h⟩ fun r_1 lo_2 =>
  s_l01Long n (w64 (16+r_1)) 65 fun r_2 =>
  k0 ⟨b_1.Dir,b_1.Slots,r_2⟩ ⟨c.b,lo_2.i,lo_2.h⟩
 else
 bif (r==2) then
  bif (decide (0<(b_1.Slots.length:Int))) then
  let lit:=([-1,0,8,9]:List Int)
  s_l01PickInt lit ⟨c.b,lo_1.i,lo_1.h⟩ fun r_3 lo_3 =>
  chk (inR 1 b_1.Slots.length) <|
  let row:=(b_1.Slots.set 1 ⟨(b_1.Slots.getD 1 dSlot).Name,r_3⟩)
  k0 ⟨b_1.Dir,row,b_1.Text⟩ ⟨c.b,lo_3.i,lo_3.h⟩
  else
  k0 b_1 ⟨c.b,lo_1.i,lo_1.h⟩
 else
 bif (r==3) then
  bif (decide (0<(b_1.Slots.length:Int))) then
  let lit_1:=([eS,S [65],S [97],S [97,98,99,100,101,102,103]]:List ByteArray)
  s_l01Pick lit_1 ⟨c.b,lo_1.i,lo_1.h⟩ fun r_4 lo_4 =>
  chk (inR 0 b_1.Slots.length) <|
  let row_1:=(b_1.Slots.set 0 ⟨r_4,(b_1.Slots.getD 0 dSlot).Ino⟩)
  k0 ⟨b_1.Dir,row_1,b_1.Text⟩ ⟨c.b,lo_4.i,lo_4.h⟩
  else
  k0 b_1 ⟨c.b,lo_1.i,lo_1.h⟩
 else
 k0 b_1 ⟨c.b,lo_1.i,lo_1.h⟩
def s_l07Any (n:Nat) (c:Cur) (k0:Disk->Cur->Option R):Option R :=
 s_l07Disk n c fun d lo =>
 s_l07Copy n d fun d_1 =>
 s_l01Below 12 ⟨c.b,lo.i,lo.h⟩ fun r lo_1 =>
 bif (r==0) then
  s_l05Bits n ⟨c.b,lo_1.i,lo_1.h⟩ fun b lo_2 =>
  k0 ⟨b,d_1.Inodes,d_1.Blocks⟩ ⟨c.b,lo_2.i,lo_2.h⟩
 else
 bif (r==1) then
  s_l01Below 8 ⟨c.b,lo_1.i,lo_1.h⟩ fun r_1 lo_3 =>
  s_l03Any ⟨c.b,lo_3.i,lo_3.h⟩ fun i lo_4 =>
  chk (inR r_1 d_1.Inodes.length) <|
  let row:=(d_1.Inodes.set r_1.toNat i)
  k0 ⟨d_1.Bits,row,d_1.Blocks⟩ ⟨c.b,lo_4.i,lo_4.h⟩
 else
 bif (r==2) then
  s_l01Below 16 ⟨c.b,lo_1.i,lo_1.h⟩ fun r_2 lo_5 =>
  s_l04Any n ⟨c.b,lo_5.i,lo_5.h⟩ fun b_1 lo_6 =>
  chk (inR r_2 d_1.Blocks.length) <|
  let row_1:=(d_1.Blocks.set r_2.toNat b_1)
  k0 ⟨d_1.Bits,d_1.Inodes,row_1⟩ ⟨c.b,lo_6.i,lo_6.h⟩
 else
 bif (r==3) then
  chk (loOk 1 d_1.Inodes.length) <|
  k0 ⟨d_1.Bits,(sub d_1.Inodes 1 (d_1.Inodes.length-1)),d_1.Blocks⟩ ⟨c.b,lo_1.i,lo_1.h⟩
 else
 k0 d_1 ⟨c.b,lo_1.i,lo_1.h⟩
def s_l08Any (n:Nat) (c:Cur) (k0:Mem->Cur->Option R):Option R :=
 s_l08Mem n c fun xm lo =>
 s_l08Copy n xm fun xm_1 =>
 s_l01Below 16 ⟨c.b,lo.i,lo.h⟩ fun r lo_1 =>
 bif (r==0) then
  s_l07Any n ⟨c.b,lo_1.i,lo_1.h⟩ fun d lo_2 =>
  k0 ⟨d,xm_1.Dirty,xm_1.Deps,xm_1.Next⟩ ⟨c.b,lo_2.i,lo_2.h⟩
 else
 bif (r==1) then
  chk (loOk 1 xm_1.Dirty.length) <|
  k0 ⟨xm_1.Disk,(sub xm_1.Dirty 1 (xm_1.Dirty.length-1)),xm_1.Deps,xm_1.Next⟩ ⟨c.b,lo_1.i,lo_1.h⟩
 else
 bif (r==2) then
  let lit:=([0,1,100000,100001]:List Int)
  s_l01PickInt lit ⟨c.b,lo_1.i,lo_1.h⟩ fun r_1 lo_3 =>
  k0 ⟨xm_1.Disk,xm_1.Dirty,xm_1.Deps,r_1⟩ ⟨c.b,lo_3.i,lo_3.h⟩
 else
 bif (r==3) then
  bif (decide (0<(xm_1.Deps.length:Int))) then
  s_l01Below (xm_1.Deps.length:Int) ⟨c.b,lo_1.i,lo_1.h⟩ fun r_2 lo_4 =>
  s_l01Below 7 ⟨c.b,lo_4.i,lo_4.h⟩ fun r_3 lo_5 =>
  chk (inR r_2 xm_1.Deps.length) <|
  let row:=(xm_1.Deps.set r_2.toNat ⟨(xm_1.Deps.getD r_2.toNat dDep).Id,r_3,(xm_1.Deps.getD r_2.toNat dDep).Ino,(xm_1.Deps.getD r_2.toNat dDep).Ptr,(xm_1.Deps.getD r_2.toNat dDep).Block,(xm_1.Deps.getD r_2.toNat dDep).Slot,(xm_1.Deps.getD r_2.toNat dDep).Name,(xm_1.Deps.getD r_2.toNat dDep).Bits,(xm_1.Deps.getD r_2.toNat dDep).Other,(xm_1.Deps.getD r_2.toNat dDep).After,(xm_1.Deps.getD r_2.toNat dDep).Blocks⟩)
  let lit_1:=([-1,0,3,16,17]:List Int)
  s_l01PickInt lit_1 ⟨c.b,lo_5.i,lo_5.h⟩ fun r_4 lo_6 =>
  chk (inR r_2 row.length) <|
  let row_1:=(row.set r_2.toNat ⟨(row.getD r_2.toNat dDep).Id,(row.getD r_2.toNat dDep).Kind,(row.getD r_2.toNat dDep).Ino,(row.getD r_2.toNat dDep).Ptr,r_4,(row.getD r_2.toNat dDep).Slot,(row.getD r_2.toNat dDep).Name,(row.getD r_2.toNat dDep).Bits,(row.getD r_2.toNat dDep).Other,(row.getD r_2.toNat dDep).After,(row.getD r_2.toNat dDep).Blocks⟩)
  k0 ⟨xm_1.Disk,xm_1.Dirty,row_1,xm_1.Next⟩ ⟨c.b,lo_6.i,lo_6.h⟩
  else
  k0 xm_1 ⟨c.b,lo_1.i,lo_1.h⟩
 else
 bif (r==4) then
  bif (decide (0<(xm_1.Deps.length:Int))) then
  chk (inR 0 xm_1.Deps.length) <|
  let el:=(xm_1.Deps.getD 0 dDep)
  let row_2:=(xm_1.Deps++([el]))
  chk (lenOk row_2) <|
  k0 ⟨xm_1.Disk,xm_1.Dirty,row_2,xm_1.Next⟩ ⟨c.b,lo_1.i,lo_1.h⟩
  else
  k0 xm_1 ⟨c.b,lo_1.i,lo_1.h⟩
 else
 k0 xm_1 ⟨c.b,lo_1.i,lo_1.h⟩
def s_l02Spoilt (n:Nat) (s:ByteArray) (c:Cur) (k0:ByteArray->Cur->Option R):Option R :=
 s_l01Below 12 c fun r lo =>
 bif (r==0) then
  s_l01Text n 1 ⟨c.b,lo.i,lo.h⟩ fun r_1 lo_1 =>
  chk (sizeOk s r_1) <|
  k0 (s++r_1) ⟨c.b,lo_1.i,lo_1.h⟩
 else
 bif (r==1) then
  s_l01Below (w64 ((s.size:Int)+1)) ⟨c.b,lo.i,lo.h⟩ fun r_2 lo_2 =>
  chk (loOk r_2 s.size) <|
  k0 (s.extract 0 r_2.toNat) ⟨c.b,lo_2.i,lo_2.h⟩
 else
 bif (r==2) then
  bif (r==2) then
  bif (decide (0<(s.size:Int))) then
   s_l01Below (s.size:Int) ⟨c.b,lo.i,lo.h⟩ fun r_3 lo_3 =>
   chk (loOk r_3 s.size) <|
   s_l01Text n 1 ⟨c.b,lo_3.i,lo_3.h⟩ fun r_4 lo_4 =>
   chk (sizeOk (s.extract 0 r_3.toNat) r_4) <|
   chk (loOk (w64 (r_3+1)) s.size) <|
   chk (sizeOk ((s.extract 0 r_3.toNat)++r_4) (s.extract ((w64 (r_3+1)).toNat) s.size)) <|
   k0 (((s.extract 0 r_3.toNat)++r_4)++(s.extract ((w64 (r_3+1)).toNat) s.size)) ⟨c.b,lo_4.i,lo_4.h⟩
  else
  k0 s ⟨c.b,lo.i,lo.h⟩
  else
  k0 s ⟨c.b,lo.i,lo.h⟩
 else
 bif (r==3) then
  bif (decide (0<(s.size:Int))) then
  s_l01Below (s.size:Int) ⟨c.b,lo.i,lo.h⟩ fun r_5 lo_5 =>
  chk (loOk r_5 s.size) <|
  s_l01Text n 1 ⟨c.b,lo_5.i,lo_5.h⟩ fun r_6 lo_6 =>
  chk (sizeOk (s.extract 0 r_5.toNat) r_6) <|
  chk (loOk (w64 (r_5+1)) s.size) <|
  chk (sizeOk ((s.extract 0 r_5.toNat)++r_6) (s.extract ((w64 (r_5+1)).toNat) s.size)) <|
  k0 (((s.extract 0 r_5.toNat)++r_6)++(s.extract ((w64 (r_5+1)).toNat) s.size)) ⟨c.b,lo_6.i,lo_6.h⟩
  else
  k0 s ⟨c.b,lo.i,lo.h⟩
 else
 k0 s ⟨c.b,lo.i,lo.h⟩
def s_l06Device (n:Nat) (c:Cur) (k0:Device->Cur->Option R):Option R :=
 s_l07Disk n c fun d lo =>
 s_DeviceOf n d fun d_1 r =>
 s_l01Below 8 ⟨c.b,lo.i,lo.h⟩ fun r_1 lo_1 =>
 bif (r_1==0) then
  s_l01Below 21 ⟨c.b,lo_1.i,lo_1.h⟩ fun r_2 lo_2 =>
  s_l01Below 6 ⟨c.b,lo_2.i,lo_2.h⟩ fun r_3 lo_3 =>
  s_l01Text n r_3 ⟨c.b,lo_3.i,lo_3.h⟩ fun r_4 lo_4 =>
  chk (inR r_2 d_1.Units.length) <|
  let row:=(d_1.Units.set r_2.toNat r_4)
  k0 ⟨row⟩ ⟨c.b,lo_4.i,lo_4.h⟩
 else
 bif (r_1==1) then
  s_l01Below 21 ⟨c.b,lo_1.i,lo_1.h⟩ fun r_5 lo_5 =>
  s_l01Below 2 ⟨c.b,lo_5.i,lo_5.h⟩ fun r_6 lo_6 =>
  s_l01Long n (w64 (60+r_6)) 65 fun r_7 =>
  chk (inR r_5 d_1.Units.length) <|
  let row_1:=(d_1.Units.set r_5.toNat r_7)
  k0 ⟨row_1⟩ ⟨c.b,lo_6.i,lo_6.h⟩
 else
 bif (r_1==2) then
  let row_2:=(d_1.Units++([S [120]]))
  chk (lenOk row_2) <|
  k0 ⟨row_2⟩ ⟨c.b,lo_1.i,lo_1.h⟩
 else
 bif (r_1==3) then
  s_l01Below 21 ⟨c.b,lo_1.i,lo_1.h⟩ fun r_8 lo_7 =>
  chk (inR r_8 d_1.Units.length) <|
  s_l02Spoilt n (d_1.Units.getD r_8.toNat eS) ⟨c.b,lo_7.i,lo_7.h⟩ fun r_9 lo_8 =>
  chk (inR r_8 d_1.Units.length) <|
  let row_3:=(d_1.Units.set r_8.toNat r_9)
  k0 ⟨row_3⟩ ⟨c.b,lo_8.i,lo_8.h⟩
 else
 k0 d_1 ⟨c.b,lo_1.i,lo_1.h⟩
def s_DrawSettled (n:Nat) (code:List UInt8) (k0:Mem->Option R):Option R :=
 s_l01New n code fun l =>
 s_l08Any n l fun xm lo =>
 s_l01Once 2 ⟨l.b,lo.i,lo.h⟩ fun r lo_1 =>
 bif r then
  s_l06Device n ⟨l.b,lo_1.i,lo_1.h⟩ fun d lo_2 =>
  s_Flush n ⟨xm,d⟩ fun f =>
  k0 f.Mem
 else
 k0 xm
def s_DrawDisk (n:Nat) (code:List UInt8) (k0:Disk->Option R):Option R :=
 s_l01New n code fun l =>
 s_l07Disk n l fun d lo =>
 s_l07Copy n d fun d_1 =>
 k0 d_1
def slices_Index_bool_l2 (v:Bool) (x:Int) (s:List Bool) (q0:Int->Option R) (q1:Option R):Nat->Int->Option R
 | 0,_=>none
 | m+1,x_1 =>
  bif (decide (x_1<x)) then
  chk (inR x_1 s.length) <|
  bif (v==(s.getD x_1.toNat false)) then
   q0 x_1
  else
  slices_Index_bool_l2 v x s q0 q1 m (w64 (x_1+1))
  else
  q1
def slices_Index_bool (n:Nat) (s:List Bool) (v:Bool) (k0:Int->Option R):Option R :=
 slices_Index_bool_l2 v (s.length:Int) s (fun x =>
  k0 x) (
  k0 (-1)) n 0
def slices_Contains_bool (n:Nat) (s:List Bool) (v:Bool) (k0:Bool->Option R):Option R :=
 slices_Index_bool n s v fun r =>
 k0 (decide (0<=r))
def i_Settled (n:Nat) (xm:Mem) (k0:Bool->Option R):Option R :=
 slices_Contains_bool n xm.Dirty true fun r =>
 k0 ((!r)&&((xm.Deps.length:Int)==0))
def w_FnSettled_l6 (v_5:List Bool) (q0:Bool->Option R):Nat->Bool->Int->Option R
 | 0,_,_=>none
 | m+1,dirty,i =>
  bif (decide (i<(v_5.length:Int))) then
  chk (!(!dirty)||(inR i v_5.length)) <|
  w_FnSettled_l6 v_5 q0 m (dirty||(v_5.getD i.toNat false)) (w64 (i+1))
  else
  q0 dirty
def w_FnSettled (n:Nat) (code:List UInt8) (k0:Bool->Option R):Option R :=
 w_big code fun r =>
 bif r then
  k0 true
 else
 s_DrawSettled n code fun xm =>
 w_FnSettled_l6 xm.Dirty (fun dirty =>
  s_DrawDisk n code fun d =>
  s_MemNew n d fun xm_1 =>
  i_Settled n xm fun r_1 =>
  i_Settled n xm_1 fun r_2 =>
  let z:=bif (r_1==((!dirty)&&((xm.Deps.length:Int)==0))) then r_2 else false
  k0 ((r_1==((!dirty)&&((xm.Deps.length:Int)==0)))&&z)) n false 0
instance:LawfulBEq ByteArray where
 eq_of_beq {a b} h:=by
  cases a; cases b
  have h:(_==_)=true:=h
  exact congrArg ByteArray.mk (eq_of_beq (α:=Array UInt8) h)
 rfl {a}:=by cases a; exact beq_self_eq_true (α:=Array UInt8) _
theorem w64_id {n:Int} (h1: -9223372036854775808<=n) (h2:n<=9223372036854775807):w64 n=n:=by
 simp only [w64,IntKind.wrap_i64]; omega
theorem w64_nat {n:Nat} (h:n<=9223372036854775807):w64 (n:Int)=n:=w64_id (by omega) (by omega)
theorem w64_suc {n:Nat} (h:n<=4611686018427387904):w64 ((n:Int)+1)=((n+1:Nat):Int):=by rw [w64_id (by omega) (by omega)]; rfl
theorem inR_nat (i n:Nat):inR (i:Int) n=decide (i<n):=by
 simp only [inR]
 by_cases h:i<n
 ·simp [h]
 ·simp [h]
theorem lt_nat (i n:Nat):decide ((i:Int)<(n:Int))=decide (i<n):=by simp
theorem chk_t (k:Option R):chk true k=k:=rfl
theorem chk_of {c:Bool} {k:Option R} (h:c=true):chk c k=k:=by rw [h]; rfl
theorem lenOk_of {α:Type} {l:List α} (h:l.length<=1099511627776):lenOk l=true:=Nat.ble_eq_true_of_le h
theorem sizeOk_of {a b:ByteArray} (h:a.size+b.size<=4611686018427387904):sizeOk a b=true:=decide_eq_true h
theorem bif_t {α:Type} (a b:α):(bif true then a else b)=a:=rfl
theorem bif_f {α:Type} (a b:α):(bif false then a else b)=b:=rfl
theorem bif_k {α β:Type} (k:α->β) (c:Bool) (a b:α):(bif c then k a else k b)=k (bif c then a else b):=by cases c<;>rfl
def FUEL:Nat:=100000000
def LEN:Nat:=2097152
theorem loop_all {L:Nat->Int->Option R} {len B:Nat} {p:Nat->Bool} {e q:Option R} (hl:len<=4611686018427387904)
  (hs:∀ m i,B<m->i<len->L (m+1) (i:Int)=bif p i then L m (w64 ((i:Int)+1)) else e) (hq:∀ m,L (m+1) (len:Int)=q) :
  ∀ (k m i:Nat),i+k=len->k+B<m->L m (i:Int)=bif (List.range' i k).all p then q else e
 | 0,0,i,h1,h2=>by omega
 | 0,m+1,i,h1,h2=>by
  have:i=len:=by omega
  subst this; rw [hq]; rfl
 | k+1,0,i,h1,h2=>by omega
 | k+1,m+1,i,h1,h2=>by
  rw [hs m i (by omega) (by omega),w64_suc (by omega),List.range'_succ,List.all_cons]
  cases hp:p i with
  | false=>rfl
  | true=>rw [loop_all hl hs hq k m (i+1) (by omega) (by omega)]; rfl
theorem all_range {α:Type} (l:List α) (d:α) (P:α->Bool):(List.range' 0 l.length).all (fun i=>P (l.getD i d))=l.all P:=by
 have h:(List.range' 0 l.length).map (fun i=>l.getD i d)=l:=by
  apply List.ext_getElem
  ·simp
  ·intro i h1 h2; simp at h2 ⊢; simp [h2]
 conv=>rhs; rw [← h,List.all_map]
 rfl
def within (x a b:Int):Bool:=decide (a<=x)&&decide (x<=b)
theorem In_eq (x a b:Int) (k:Bool->Option R):s_l01In x a b k=k (within x a b):=rfl
def inodeNew (kind:Int):Inode:=⟨kind,bif kind==0 then 0 else 1,[0,0]⟩
theorem InodeNew_eq (kind:Int) (k:Inode->Option R):s_InodeNew kind k=k (inodeNew kind):=by
 simp only [s_InodeNew,inodeNew]; cases kind==0<;>rfl
def inodeOk (x:Inode):Bool:=within x.Kind 0 2&&(within x.Links 0 200&&(x.Ptrs.length==2&&(x.Ptrs.all (fun p=>within p 0 16&&(x.Kind != 0||p==0))&&(x.Kind != 0||x.Links==0))))
theorem InodeOk_eq {n:Nat} (hn:FUEL<=n) (x:Inode) (k:Bool->Option R):s_InodeOk n x k=k (inodeOk x):=by
 simp only [s_InodeOk,In_eq,inodeOk]
 cases within x.Kind 0 2 with
 | false=>rfl
 | true =>
  cases within x.Links 0 200 with
  | false=>rfl
  | true =>
   simp only [Bool.not_true,Bool.not_false,cond_true,Bool.false_or,Bool.true_and]
   by_cases hp:x.Ptrs.length=2
   ·have hp':(x.Ptrs.length:Int)==2:=by simp [hp]
    rw [hp',hp]
    have:=loop_all (R:=R) (L:=s_InodeOk_l4 x.Kind x.Ptrs (fun x_1=>k x_1) (k ((!(x.Kind==0))||(x.Links==0)))) (len:=2) (B:=0) (p:=fun i=>within (x.Ptrs.getD i 0) 0 16&&(x.Kind != 0||x.Ptrs.getD i 0==0))
     (e:=k false) (q:=k ((!(x.Kind==0))||(x.Links==0))) (by omega) (fun m i _ hi=>by
      simp only [s_InodeOk_l4,In_eq,inR_nat,hp,Int.toNat_natCast]
      rw [show decide ((i:Int)<2)=true by simp; omega,show decide (i<2)=true by simp; omega]
      simp only [cond_true,chk_t,Bool.or_true,bne]
      cases within (x.Ptrs.getD i 0) 0 16<;>cases x.Kind==0<;>cases x.Ptrs.getD i 0==0<;>rfl) (fun m=>by simp [s_InodeOk_l4]) 2 n 0 rfl (by simp only [FUEL] at hn; omega)
    simp only [Bool.not_true,cond_false]
    refine this.trans ?_
    rw [← hp,all_range x.Ptrs 0 (fun p=>within p 0 16&&(x.Kind != 0||p==0))]
    simp only [beq_self_eq_true,Bool.true_and,bne]
    rw [bif_k]; congr 1
    cases List.all x.Ptrs _<;>rfl
   ·have hp':((x.Ptrs.length:Int)==2)=false:=by simp; omega
    have hp2:(x.Ptrs.length==2)=false:=by simpa using hp
    rw [hp',hp2]; rfl
def COk (c:Cur):Prop:=0<=c.i/\c.b.length<=LEN
def Cn (c c':Cur):Prop:=COk c'/\c'.b=c.b
theorem Cn.mk' {c c':Cur} (h:Cn c c'):(⟨c.b,c'.i,c'.h⟩:Cur)=c':=by obtain ⟨_,h⟩:=h; cases c'; simp only at h; subst h; rfl
theorem Cn.tr {a b c:Cur} (h:Cn a b) (h':Cn b c):Cn a c:=⟨h'.1,h'.2.trans h.2⟩
theorem and255 (a:Int):0<=andK .i64 a 255/\andK .i64 a 255<=255:=by
 have h:(BitVec.ofInt IntKind.i64.bits a &&& BitVec.ofInt IntKind.i64.bits 255).toNat<=255:=by
  rw [BitVec.toNat_and]
  exact Nat.le_trans Nat.and_le_right (by decide)
 simp only [andK,IntKind.wrap_i64]
 omega
def nextH (c:Cur):Int:=w64 ((w64 (c.h*6364136223846793005))+1442695040888963407)
def rawB (c:Cur):Int:=xorK .i64 (shrK .i64 (nextH c) 33) (shrK .i64 (nextH c) 45)
theorem byte_draw (c:Cur) (hc:COk c):∃ x c',0<=x/\x<=255/\Cn c c'/\∀ k:Int->Cur->Option R,s_l01Byte c k=k x c':=by
 obtain ⟨h1,h2⟩:=hc
 have h2':c.b.length<=2097152:=h2
 by_cases h:c.i<(c.b.length:Int)
 ·refine ⟨andK .i64 (w64 (andK .i64 (rawB c) 255+w64 ((c.b.getD c.i.toNat 0).toNat:Int))) 255,⟨c.b,w64 (c.i+1),nextH c⟩,(and255 _).1,(and255 _).2,⟨⟨?_,h2⟩,rfl⟩,fun k=> ?_⟩
  ·show 0<=w64 (c.i+1)
   rw [w64_id (by omega) (by omega)]; omega
  ·simp only [s_l01Byte]
   rw [decide_eq_true h,bif_t,chk_of]
   ·rfl
   ·simp only [inR,Bool.and_eq_true,decide_eq_true_eq]; omega
 ·refine ⟨andK .i64 (rawB c) 255,⟨c.b,c.i,nextH c⟩,(and255 _).1,(and255 _).2,⟨⟨h1,h2⟩,rfl⟩,fun k=> ?_⟩
  simp only [s_l01Byte]
  rw [decide_eq_false h,bif_f]
  rfl
theorem below_draw (n:Int) (hn:0<n) (h2:n<=4611686018427387904) (c:Cur) (hc:COk c):∃ x c',0<=x/\x<n/\Cn c c'/\∀ k:Int->Cur->Option R,s_l01Below n c k=k x c':=by
 by_cases h:n<=256
 ·obtain ⟨x,c',x1,x2,hc',e⟩:=byte_draw (R:=R) c hc
  refine ⟨x.tmod n,c',Int.tmod_nonneg _ x1,?_,hc',fun k=> ?_⟩
  ·exact Int.tmod_lt_of_pos _ hn
  ·simp only [s_l01Below]
   rw [decide_eq_false (by omega),bif_f,decide_eq_true h,bif_t,e,hc'.mk',chk_of]
   simp; omega
 ·obtain ⟨x1,c1,_,_,hc1,e1⟩:=byte_draw (R:=R) c hc
  obtain ⟨x2,c2,_,_,hc2,e2⟩:=byte_draw (R:=R) c1 hc1.1
  obtain ⟨x3,c3,_,_,hc3,e3⟩:=byte_draw (R:=R) c2 hc2.1
  obtain ⟨x4,c4,_,_,hc4,e4⟩:=byte_draw (R:=R) c3 hc3.1
  have b2:=hc1.tr hc2
  have b3:=b2.tr hc3
  have b4:=b3.tr hc4
  refine ⟨(w64 ((w64 ((w64 ((w64 (x1*16777216))+(w64 (x2*65536))))+(w64 (x3*256))))+x4)).tmod n,c4,?_,Int.tmod_lt_of_pos _ hn,b4,fun k=> ?_⟩
  ·refine Int.tmod_nonneg _ ?_
   rw [w64_id (n:=x1*16777216) (by omega) (by omega),w64_id (n:=x2*65536) (by omega) (by omega),w64_id (n:=x3*256) (by omega) (by omega),w64_id (n:=x1*16777216+x2*65536) (by omega) (by omega),w64_id (n:=x1*16777216+x2*65536+x3*256) (by omega) (by omega),w64_id (by omega) (by omega)]
   omega
  ·simp only [s_l01Below]
   rw [decide_eq_false (by omega),bif_f,decide_eq_false h,bif_f,e1,hc1.mk',e2,b2.mk',e3,b3.mk',e4,b4.mk',chk_of]
   simp; omega
theorem getD_mem {α:Type} {l:List α} {i:Nat} (d:α) (h:i<l.length):l.getD i d∈l:=by
 have:l.getD i d=l[i]:=by simp [List.getD_eq_getElem?_getD,h]
 rw [this]; exact List.getElem_mem _
theorem pickInt_draw (l:List Int) (hl:0<l.length) (h2:l.length<=LEN) (c:Cur) (hc:COk c):∃ x c',x∈l/\Cn c c'/\∀ k:Int->Cur->Option R,s_l01PickInt l c k=k x c':=by
 have h2:l.length<=2097152:=h2
 obtain ⟨x,c',x1,x2,hc',e⟩:=below_draw (R:=R) (l.length:Int) (by omega) (by omega) c hc
 refine ⟨l.getD x.toNat 0,c',getD_mem 0 (by omega),hc',fun k=> ?_⟩
 simp only [s_l01PickInt]
 rw [e,chk_of,hc'.mk']
 simp only [inR,Bool.and_eq_true,decide_eq_true_eq]; omega
theorem pick_draw (l:List ByteArray) (hl:0<l.length) (h2:l.length<=LEN) (c:Cur) (hc:COk c):∃ x c',x∈l/\Cn c c'/\∀ k:ByteArray->Cur->Option R,s_l01Pick l c k=k x c':=by
 have h2:l.length<=2097152:=h2
 obtain ⟨x,c',x1,x2,hc',e⟩:=below_draw (R:=R) (l.length:Int) (by omega) (by omega) c hc
 refine ⟨l.getD x.toNat eS,c',getD_mem eS (by omega),hc',fun k=> ?_⟩
 simp only [s_l01Pick]
 rw [e,chk_of,hc'.mk']
 simp only [inR,Bool.and_eq_true,decide_eq_true_eq]; omega
def names5:List ByteArray:=[S [97],S [98],S [99],S [100,100],S [101,49]]
theorem name_draw (c:Cur) (hc:COk c):∃ x c',x∈names5/\Cn c c'/\∀ k:ByteArray->Cur->Option R,s_l04Name c k=k x c':=by
 obtain ⟨x,c',x1,hc',e⟩:=pick_draw (R:=R) names5 (by decide) (by decide) c hc
 refine ⟨x,c',x1,hc',fun k=> ?_⟩
 simp only [s_l04Name]
 exact (e _).trans (by rw [hc'.mk'])
theorem once_draw (n:Int) (hn:0<n) (h2:n<=4611686018427387904) (c:Cur) (hc:COk c):∃ (x:Bool) (c':Cur),Cn c c'/\∀ k:Bool->Cur->Option R,s_l01Once n c k=k x c':=by
 obtain ⟨x,c',x1,x2,hc',e⟩:=below_draw (R:=R) n hn h2 c hc
 refine ⟨x==0,c',hc',fun k=> ?_⟩
 simp only [s_l01Once]
 rw [e,hc'.mk']
theorem fuel_lt {n k:Nat} (hn:FUEL<=n) (h:k<100000000):k<n:=Nat.lt_of_lt_of_le h hn
theorem int_beq (a b:Nat):((a:Int)==(b:Int))=(a==b):=by
 by_cases h:a=b
 ·subst h; simp
 ·rw [beq_eq_false_iff_ne.2 h,beq_eq_false_iff_ne.2 (by omega)]
theorem bt_eq (s:ByteArray) (i:Nat):bt s i=(s.data.toList.getD i 0).toNat:=by
 simp [bt,Array.getD_eq_getD_getElem?,List.getD_eq_getElem?_getD]
theorem size_eq (s:ByteArray):s.size=s.data.toList.length:=rfl
theorem loop_list {α:Type} {L:Nat->Int->Option R} {l:List α} (d:α) {B:Nat} {P:α->Bool} {e q:Option R} (hl:l.length<=4611686018427387904)
  (hs:∀ m i,B<m->i<l.length->L (m+1) (i:Int)=bif P (l.getD i d) then L m (w64 ((i:Int)+1)) else e) (hq:∀ m,L (m+1) (l.length:Int)=q)
  {n:Nat} (hn:l.length+B<n):L n 0=bif l.all P then q else e:=by
 have:=loop_all (R:=R) hl hs hq l.length n 0 (by omega) hn
 rw [all_range l d P] at this
 exact this
def nmB (x:UInt8):Bool:=(decide (97<=x.toNat)&&decide (x.toNat<=122))||(decide (48<=x.toNat)&&decide (x.toNat<=57))
def nameOk (s:ByteArray):Bool:=s.data.toList.all nmB&&within s.size 1 6
theorem NameOk_eq {n:Nat} (hn:FUEL<=n) (s:ByteArray) (hs:s.size<=LEN) (k:Bool->Option R):s_NameOk n s k=k (nameOk s):=by
 simp only [s_NameOk,In_eq,nameOk]
 have hs':s.data.toList.length<=2097152:=hs
 have:=loop_list (R:=R) (L:=s_NameOk_l2 s (fun x=>k x) (k (within s.size 1 6))) (l:=s.data.toList) 0 (B:=0) (P:=nmB) (e:=k false) (q:=k (within s.size 1 6)) (by omega)
  (fun m i _ hi=>by
   have hi':i<s.size:=hi
   simp only [s_NameOk_l2,lt_nat,inR_nat,hi',decide_true,Bool.or_true,chk_t,cond_true,Int.toNat_natCast,bt_eq,nmB]
   generalize s.data.toList.getD i 0=x
   have e1:decide (((x.toNat:Nat):Int)<97)= !decide (97<=x.toNat):=by
    by_cases h:97<=x.toNat<;>simp [h]<;>omega
   have e2:decide ((122:Int)<((x.toNat:Nat):Int))= !decide (x.toNat<=122):=by
    by_cases h:x.toNat<=122<;>simp [h]<;>omega
   have e3:decide (((x.toNat:Nat):Int)<48)= !decide (48<=x.toNat):=by
    by_cases h:48<=x.toNat<;>simp [h]<;>omega
   have e4:decide ((57:Int)<((x.toNat:Nat):Int))= !decide (x.toNat<=57):=by
    by_cases h:x.toNat<=57<;>simp [h]<;>omega
   rw [e1,e2,e3,e4]
   cases decide (97<=x.toNat)<;>cases decide (x.toNat<=122)<;>cases decide (48<=x.toNat)<;>cases decide (x.toNat<=57)<;>rfl)
  (fun m=>by
   have:(s.data.toList.length:Int)=(s.size:Int):=rfl
   simp [s_NameOk_l2,this]) (n:=n) (fuel_lt hn (by omega))
 refine this.trans ?_
 rw [bif_k]; congr 1
 cases List.all s.data.toList nmB<;>rfl
theorem loop_find {L:Nat->Int->Option R} {len B:Nat} {p:Nat->Bool} {e:Int->Option R} {q:Option R} (hl:len<=4611686018427387904)
  (hs:∀ m i,B<m->i<len->L (m+1) (i:Int)=bif p i then e i else L m (w64 ((i:Int)+1))) (hq:∀ m,L (m+1) (len:Int)=q) :
  ∀ (k m i:Nat),i+k=len->k+B<m->L m (i:Int)=match (List.range' i k).find? p with | some j=>e j | none=>q
 | 0,0,i,h1,h2=>by omega
 | 0,m+1,i,h1,h2=>by
  have:i=len:=by omega
  subst this; rw [hq]; rfl
 | k+1,0,i,h1,h2=>by omega
 | k+1,m+1,i,h1,h2=>by
  rw [hs m i (by omega) (by omega),w64_suc (by omega),List.range'_succ,List.find?_cons]
  cases hp:p i with
  | true=>rfl
  | false=>exact loop_find hl hs hq k m (i+1) (by omega) (by omega)
def placeIn {α:Type} (P:α->Bool):List α->Int
 | []=> -1
 | x::l=>bif P x then 0 else match placeIn P l with | .ofNat j=> .ofNat (j+1) | _=> -1
theorem find_place {α:Type} (P:α->Bool) (d:α) (l:List α):∀ (s:List α) (i:Nat),s=l.drop i->i<=l.length ->
  (match (List.range' i (l.length-i)).find? (fun j=>P (l.getD j d)) with | some j=>(j:Int) | none=> -1)=match placeIn P s with | .ofNat j=>((i+j:Nat):Int) | _=> -1
 | [],i,h,hi=>by
  have:l.length<=i:=by
   have:=congrArg List.length h; simp at this; omega
  rw [show l.length-i=0 by omega]; rfl
 | x::s,i,h,hi=>by
  have hlt:i<l.length:=by
   have:=congrArg List.length h; simp at this; omega
  have hx:l.getD i d=x:=by
   have:=congrArg (fun l=>l[0]?) h
   simp only [List.getElem?_cons_zero,List.getElem?_drop,Nat.add_zero] at this
   simp [List.getD_eq_getElem?_getD,← this]
  have hs:s=l.drop (i+1):=by
   have:=congrArg List.tail h
   simpa [List.tail_drop] using this
  obtain ⟨k,hk⟩:∃ k,l.length-i=k+1:=⟨l.length-i-1,by omega⟩
  rw [hk,List.range'_succ,List.find?_cons,hx]
  cases hp:P x with
  | true=>simp [placeIn,hp]
  | false =>
   have ih:=find_place P d l s (i+1) hs (by omega)
   rw [show l.length-(i+1)=k by omega] at ih
   simp only [placeIn,hp,cond_false]
   rw [ih]
   cases hpl:placeIn P s with
   | ofNat j=>simp; omega
   | negSucc j=>rfl
def slotOf (b:Block) (name:ByteArray):Int:=bif name==eS then -1 else placeIn (fun s=>s.Name==name) b.Slots
theorem placeIn_ge {α:Type} (P:α->Bool):∀ l:List α,placeIn P l= -1\/∃ j:Nat,placeIn P l=j/\j<l.length
 | []=> .inl rfl
 | x::l=>by
  simp only [placeIn]
  cases P x with
  | true=>exact .inr ⟨0,rfl,by simp⟩
  | false =>
   rcases placeIn_ge P l with h | ⟨j,h,hj⟩
   ·rw [h]; exact .inl rfl
   ·rw [h]; exact .inr ⟨j+1,rfl,by simp; omega⟩
theorem SlotOf_eq {n:Nat} (hn:FUEL<=n) (b:Block) (hb:b.Slots.length<=LEN) (name:ByteArray) (k:Int->Option R):s_SlotOf n b name k=k (slotOf b name):=by
 simp only [s_SlotOf,slotOf]
 have hb':b.Slots.length<=2097152:=hb
 have:=loop_find (R:=R) (L:=s_SlotOf_l2 name b.Slots (fun x=>k x) (k (-1))) (len:=b.Slots.length) (B:=0) (p:=fun i=> !(name==eS)&&((b.Slots.getD i dSlot).Name==name)) (e:=fun i=>k i) (q:=k (-1)) (by omega)
  (fun m i _ hi=>by
   simp only [s_SlotOf_l2,lt_nat,inR_nat,hi,decide_true,Bool.or_true,chk_t,cond_true,Int.toNat_natCast]) (fun m=>by simp [s_SlotOf_l2]) b.Slots.length n 0 (by omega) (fuel_lt hn (by omega))
 refine this.trans ?_
 cases hname:name==eS with
 | true =>
  have:(List.range' 0 b.Slots.length).find? (fun i=> !true&&((b.Slots.getD i dSlot).Name==name))=none:=by
   rw [List.find?_eq_none]; intro x _; simp
  rw [this]; rfl
 | false =>
  have h2:=find_place (fun s:Slot=>s.Name==name) dSlot b.Slots b.Slots 0 rfl (by omega)
  simp only [Nat.sub_zero,Nat.zero_add] at h2
  simp only [Bool.not_false,Bool.true_and,cond_false]
  have h3:(match placeIn (fun s:Slot=>s.Name==name) b.Slots with | .ofNat j=>((j:Nat):Int) | _=> -1)=placeIn (fun s:Slot=>s.Name==name) b.Slots:=by
   rcases placeIn_ge (fun s:Slot=>s.Name==name) b.Slots with h | ⟨j,h,_⟩<;>rw [h]<;>rfl
  rw [← h3,← h2]
  cases List.find? _ _<;>rfl
def slotB (l:List Slot) (i:Nat):Bool:=((l.getD i dSlot).Name==eS&&(l.getD i dSlot).Ino==0)||((nameOk (l.getD i dSlot).Name&&within (l.getD i dSlot).Ino 1 8)&&(List.range' 0 i).all fun k=> !((l.getD k dSlot).Name==(l.getD i dSlot).Name))
def slotsB (l:List Slot):Bool:=(List.range' 0 4).all (slotB l)
def blockOk (b:Block):Bool:=bif b.Dir then (b.Slots.length==4&&b.Text==eS)&&slotsB b.Slots else b.Slots.length==0&&decide (b.Text.size<=16)
def SzSlot (s:Slot):Prop:=s.Name.size<=LEN
def SzBlock (b:Block):Prop:=b.Slots.length<=LEN/\b.Text.size<=LEN/\∀ s∈b.Slots,SzSlot s
def SzInode (x:Inode):Prop:=x.Ptrs.length<=LEN
structure SzDisk (d:Disk):Prop where
 bb:d.Bits.Blocks.length<=LEN
 bi:d.Bits.Inos.length<=LEN
 di:d.Inodes.length<=LEN
 db:d.Blocks.length<=LEN
 ino:∀ x∈d.Inodes,SzInode x
 blk:∀ b∈d.Blocks,SzBlock b
theorem BlockOk_eq {n:Nat} (hn:FUEL<=n) (b:Block) (hb:SzBlock b) (k:Bool->Option R):s_BlockOk n b k=k (blockOk b):=by
 simp only [s_BlockOk,blockOk]
 cases hd:b.Dir with
 | false =>
  simp only [Bool.not_false,cond_true,cond_false]
  congr 2
  ·exact int_beq b.Slots.length 0
  ·exact decide_eq_decide.2 (by omega)
 | true =>
  simp only [Bool.not_true,cond_true,cond_false]
  rw [show (4:Int)=((4:Nat):Int) from rfl,int_beq]
  cases hl:b.Slots.length==4 with
  | false=>rfl
  | true =>
   cases ht:b.Text==eS with
   | false=>rfl
   | true =>
    have hl4:b.Slots.length=4:=by simpa using hl
    simp only [Bool.not_true,Bool.or_false,cond_false,Bool.true_and]
    have:=loop_all (R:=R) (L:=s_BlockOk_l6 n b.Slots (fun x=>k x) (k true)) (len:=4) (B:=10) (p:=slotB b.Slots) (e:=k false) (q:=k true) (by omega)
     (fun m i hm hi=>by
      have hn4:(b.Slots.getD i dSlot).Name.size<=LEN:=hb.2.2 _ (getD_mem dSlot (by omega))
      simp only [s_BlockOk_l6,In_eq,inR_nat,hl4,Int.toNat_natCast,slotB]
      rw [show decide ((i:Int)<4)=true by simp; omega,show decide (i<4)=true by simp; omega]
      simp only [cond_true,chk_t]
      cases h1:(b.Slots.getD i dSlot).Name==eS&&(b.Slots.getD i dSlot).Ino==0 with
      | true=>rfl
      | false =>
       simp only [cond_false,Bool.false_or]
       rw [NameOk_eq hn _ hn4]
       cases nameOk (b.Slots.getD i dSlot).Name with
       | false=>rfl
       | true =>
        cases within (b.Slots.getD i dSlot).Ino 1 8 with
        | false=>rfl
        | true =>
         simp only [Bool.not_true,Bool.not_false,cond_true,Bool.or_false,cond_false,Bool.true_and]
         have h2:=loop_all (R:=R) (L:=s_BlockOk_l13 (i:Int) (b.Slots.getD i dSlot).Name b.Slots (fun x=>k x) (s_BlockOk_l6 n b.Slots (fun x=>k x) (k true) m (w64 ((i:Int)+1)))) (len:=i) (B:=0)
          (p:=fun j=> !((b.Slots.getD j dSlot).Name==(b.Slots.getD i dSlot).Name)) (e:=k false) (q:=s_BlockOk_l6 n b.Slots (fun x=>k x) (k true) m (w64 ((i:Int)+1))) (by omega)
          (fun m j _ hj=>by
           simp only [s_BlockOk_l13,lt_nat,inR_nat,hj,decide_true,hl4,Int.toNat_natCast,cond_true]
           rw [show decide (j<4)=true by simp; omega,chk_t]
           cases (b.Slots.getD j dSlot).Name==(b.Slots.getD i dSlot).Name<;>rfl) (fun m=>by simp [s_BlockOk_l13]) i m 0 (by omega) (by omega)
         exact h2) (fun m=>by simp [s_BlockOk_l6]) 4 n 0 rfl (fuel_lt hn (by omega))
    refine this.trans ?_
    rw [bif_k]; congr 1
    show _=slotsB b.Slots
    simp only [slotsB]
    cases List.all _ _<;>rfl
def bitsOk (b:Bits):Bool:=b.Blocks.length==16&&b.Inos.length==8
theorem BitsOk_eq (b:Bits) (k:Bool->Option R):s_BitsOk b k=k (bitsOk b):=by
 simp only [s_BitsOk,bitsOk]
 rw [show (16:Int)=((16:Nat):Int) from rfl,show (8:Int)=((8:Nat):Int) from rfl,int_beq,int_beq]
def diskOk (d:Disk):Bool:=(bitsOk d.Bits&&(d.Inodes.length==8&&d.Blocks.length==16))&&(d.Inodes.all inodeOk&&d.Blocks.all blockOk)
theorem DiskOk_eq {n:Nat} (hn:FUEL<=n) (d:Disk) (hd:SzDisk d) (k:Bool->Option R):s_DiskOk n d k=k (diskOk d):=by
 simp only [s_DiskOk,diskOk,BitsOk_eq]
 rw [show (16:Int)=((16:Nat):Int) from rfl,show (8:Int)=((8:Nat):Int) from rfl,int_beq,int_beq]
 have l1:d.Inodes.length<=2097152:=hd.di
 have l2:d.Blocks.length<=2097152:=hd.db
 cases bitsOk d.Bits<;>cases d.Inodes.length==8<;>cases d.Blocks.length==16<;>try rfl
 simp only [Bool.not_true,Bool.or_false,cond_false,Bool.true_and]
 have h2:=loop_list (R:=R) (L:=s_DiskOk_l9 n d.Blocks (fun x=>k x) (k true)) (l:=d.Blocks) dBlock (B:=0) (P:=blockOk) (e:=k false) (q:=k true) (by omega)
  (fun m i _ hi=>by
   simp only [s_DiskOk_l9,lt_nat,inR_nat,hi,decide_true,chk_t,cond_true,Int.toNat_natCast]
   rw [BlockOk_eq hn _ (hd.blk _ (getD_mem dBlock hi))]
   cases blockOk (d.Blocks.getD i dBlock)<;>rfl) (fun m=>by simp [s_DiskOk_l9]) (n:=n) (fuel_lt hn (by omega))
 have h1:=loop_list (R:=R) (L:=s_DiskOk_l4 n d.Inodes (fun x=>k x) (s_DiskOk_l9 n d.Blocks (fun x=>k x) (k true) n 0)) (l:=d.Inodes) dInode (B:=0) (P:=inodeOk) (e:=k false) (q:=s_DiskOk_l9 n d.Blocks (fun x=>k x) (k true) n 0) (by omega)
  (fun m i _ hi=>by
   simp only [s_DiskOk_l4,lt_nat,inR_nat,hi,decide_true,chk_t,cond_true,Int.toNat_natCast]
   rw [InodeOk_eq hn]
   cases inodeOk (d.Inodes.getD i dInode)<;>rfl) (fun m=>by simp [s_DiskOk_l4]) (n:=n) (fuel_lt hn (by omega))
 refine h1.trans ?_
 rw [h2]
 cases List.all d.Inodes inodeOk<;>cases List.all d.Blocks blockOk<;>rfl
theorem drop_getD {α:Type} {l:List α} {i:Nat} (d:α) (h:i<l.length):l.drop i=l.getD i d::l.drop (i+1):=by
 rw [List.drop_eq_getElem_cons h]; simp [List.getD_eq_getElem?_getD,h]
theorem loop_flat {α β:Type} {L:Nat->Int->List β->Option R} {l:List α} (d:α) {f:α->List β} {B C:Nat} {q:List β->Option R} (hl:l.length<=4611686018427387904) (hC:∀ x∈l,(f x).length<=C)
  (hs:∀ m i acc,B<m->i<l.length->acc.length<=C*i->L (m+1) (i:Int) acc=L m (w64 ((i:Int)+1)) (acc++f (l.getD i d))) (hq:∀ m acc,L (m+1) (l.length:Int) acc=q acc) :
  ∀ (k m i:Nat) (acc:List β),i+k=l.length->k+B<m->acc.length<=C*i->L m (i:Int) acc=q (acc++(l.drop i).flatMap f)
 | 0,0,i,acc,h1,h2,h3=>by omega
 | 0,m+1,i,acc,h1,h2,h3=>by
  have:i=l.length:=by omega
  subst this; rw [hq]; simp
 | k+1,0,i,acc,h1,h2,h3=>by omega
 | k+1,m+1,i,acc,h1,h2,h3=>by
  have hi:i<l.length:=by omega
  have hx:=hC _ (getD_mem d hi)
  rw [hs m i acc (by omega) hi h3,w64_suc (by omega),loop_flat d hl hC hs hq k m (i+1) _ (by omega) (by omega) (by rw [List.length_append,Nat.mul_add]; omega),drop_getD d hi,List.flatMap_cons,List.append_assoc]
theorem loop_map {α β:Type} {L:Nat->Int->List β->Option R} {l:List α} (d:α) {f:α->β} {B:Nat} {q:List β->Option R} (hl:l.length<=4611686018427387904)
  (hs:∀ m i acc,B<m->i<l.length->acc.length<=i->L (m+1) (i:Int) acc=L m (w64 ((i:Int)+1)) (acc++[f (l.getD i d)])) (hq:∀ m acc,L (m+1) (l.length:Int) acc=q acc)
  {n:Nat} (hn:l.length+B<n):L n 0 []=q (l.map f):=by
 have:=loop_flat (R:=R) (l:=l) d (f:=fun x=>[f x]) (C:=1) hl (fun x _=>by simp) (fun m i acc h1 h2 h3=>hs m i acc h1 h2 (by omega)) hq l.length n 0 [] (by omega) hn (by simp)
 rw [List.drop_zero,List.nil_append] at this
 refine this.trans ?_
 congr 1
 exact List.map_eq_flatMap.symm
theorem lenOk_app {α:Type} {l:List α} {i:Nat} {x:List α} (h:l.length<=i) (hi:i<=2097152) (hx:x.length<=1099507433472):lenOk (l++x)=true:=lenOk_of (by rw [List.length_append]; omega)
theorem l05Copy_eq (b:Bits) (h1:b.Blocks.length<=LEN) (h2:b.Inos.length<=LEN) (k:Bits->Option R):s_l05Copy b k=k b:=by
 have h1:b.Blocks.length<=2097152:=h1
 have h2:b.Inos.length<=2097152:=h2
 simp only [s_l05Copy,List.nil_append]
 rw [chk_of (lenOk_of (by omega)),chk_of (lenOk_of (by omega))]
theorem l03Copy_eq (x:Inode) (h:SzInode x) (k:Inode->Option R):s_l03Copy x k=k x:=by
 have h:x.Ptrs.length<=2097152:=h
 simp only [s_l03Copy,List.nil_append]
 rw [chk_of (lenOk_of (by omega))]
theorem l04Copy_eq (b:Block) (h:b.Slots.length<=LEN) (k:Block->Option R):s_l04Copy b k=k b:=by
 have h:b.Slots.length<=2097152:=h
 simp only [s_l04Copy,List.nil_append]
 rw [chk_of (lenOk_of (by omega))]
theorem l07Copy_eq {n:Nat} (hn:FUEL<=n) (d:Disk) (hd:SzDisk d) (k:Disk->Option R):s_l07Copy n d k=k d:=by
 have l1:d.Inodes.length<=2097152:=hd.di
 have l2:d.Blocks.length<=2097152:=hd.db
 simp only [s_l07Copy]
 rw [l05Copy_eq _ hd.bb hd.bi]
 have h2:=loop_map (R:=R) (L:=s_l07Copy_l7 d.Blocks (fun v_1=>k ⟨d.Bits,d.Inodes,v_1⟩)) (l:=d.Blocks) dBlock (f:=id) (B:=0) (q:=fun v_1=>k ⟨d.Bits,d.Inodes,v_1⟩) (by omega)
  (fun m i acc _ hi ha=>by
   simp only [s_l07Copy_l7,lt_nat,inR_nat,hi,decide_true,chk_t,cond_true,Int.toNat_natCast]
   rw [l04Copy_eq _ (hd.blk _ (getD_mem dBlock hi)).1,chk_of (lenOk_app ha (by omega) (by simp))]; rfl) (fun m acc=>by simp only [s_l07Copy_l7,Int.lt_irrefl,decide_false,cond_false]) (n:=n) (fuel_lt hn (by omega))
 have h1:=loop_map (R:=R) (L:=s_l07Copy_l3 d.Inodes (fun v=>s_l07Copy_l7 d.Blocks (fun v_1=>k ⟨d.Bits,v,v_1⟩) n 0 [])) (l:=d.Inodes) dInode (f:=id) (B:=0) (q:=fun v=>s_l07Copy_l7 d.Blocks (fun v_1=>k ⟨d.Bits,v,v_1⟩) n 0 []) (by omega)
  (fun m i acc _ hi ha=>by
   simp only [s_l07Copy_l3,lt_nat,inR_nat,hi,decide_true,chk_t,cond_true,Int.toNat_natCast]
   rw [l03Copy_eq _ (hd.ino _ (getD_mem dInode hi)),chk_of (lenOk_app ha (by omega) (by simp))]; rfl) (fun m acc=>by simp only [s_l07Copy_l3,Int.lt_irrefl,decide_false,cond_false]) (n:=n) (fuel_lt hn (by omega))
 rw [List.map_id] at h1 h2
 exact h1.trans h2
def SzDep (d:Dep):Prop:=d.Name.size<=LEN/\d.Blocks.length<=LEN
structure SzMem (m:Mem):Prop where
 d:SzDisk m.Disk
 dy:m.Dirty.length<=LEN
 dp:m.Deps.length<=LEN
 dep:∀ d∈m.Deps,SzDep d
theorem l08Copy_eq {n:Nat} (hn:FUEL<=n) (x:Mem) (hx:SzMem x) (k:Mem->Option R):s_l08Copy n x k=k x:=by
 have l1:x.Dirty.length<=2097152:=hx.dy
 have l2:x.Deps.length<=2097152:=hx.dp
 simp only [s_l08Copy,List.nil_append]
 rw [l07Copy_eq hn _ hx.d,chk_of (lenOk_of (by omega))]
 have h2:=loop_map (R:=R) (L:=s_l08Copy_l3 x.Deps (fun v=>k ⟨x.Disk,x.Dirty,v,x.Next⟩)) (l:=x.Deps) dDep (f:=id) (B:=0) (q:=fun v=>k ⟨x.Disk,x.Dirty,v,x.Next⟩) (by omega)
  (fun m i acc _ hi ha=>by
   have hb:(x.Deps.getD i dDep).Blocks.length<=2097152:=(hx.dep _ (getD_mem dDep hi)).2
   simp only [s_l08Copy_l3,lt_nat,inR_nat,hi,decide_true,chk_t,cond_true,Int.toNat_natCast,List.nil_append]
   rw [chk_of (lenOk_of (by omega)),chk_of (lenOk_app ha (by omega) (by simp))]; rfl) (fun m acc=>by simp only [s_l08Copy_l3,Int.lt_irrefl,decide_false,cond_false]) (n:=n) (fuel_lt hn (by omega))
 rw [List.map_id] at h2
 exact h2
def diskNew:Disk:=⟨⟨List.replicate 16 false,(List.replicate 8 false).set 0 true⟩,(List.replicate 8 (inodeNew 0)).set 0 (inodeNew 2),List.replicate 16 dBlock⟩
theorem DiskNew_eq {n:Nat} (hn:FUEL<=n) (k:Disk->Option R):s_DiskNew n k=k diskNew:=by
 simp only [s_DiskNew,s_BitsNew]
 rw [chk_of (by rfl)]
 have h2:=loop_map (R:=R) (L:=s_DiskNew_l3 (fun v=>s_InodeNew 2 fun i=>chk (inR 0 v.length) (k ⟨⟨List.replicate 16 false,(List.replicate 8 false).set 0 true⟩,v.set 0 i,List.replicate 16 dBlock⟩))) (l:=List.replicate 8 ()) () (f:=fun _=>inodeNew 0) (B:=0) (q:=fun v=>s_InodeNew 2 fun i=>chk (inR 0 v.length) (k ⟨⟨List.replicate 16 false,(List.replicate 8 false).set 0 true⟩,v.set 0 i,List.replicate 16 dBlock⟩)) (by decide)
  (fun m i acc _ hi ha=>by
   have hi:i<8:=by simpa using hi
   simp only [s_DiskNew_l3,InodeNew_eq]
   rw [show decide ((i:Int)<8)=true by simp; omega,bif_t,chk_of (lenOk_app ha (by omega) (by simp))]) (fun m acc=>by simp [s_DiskNew_l3]) (n:=n) (fuel_lt hn (by decide))
 refine h2.trans ?_
 rw [InodeNew_eq,chk_of (by rfl)]
 rfl
theorem DirNew_eq (k:Block->Option R):s_DirNew k=k ⟨true,List.replicate 4 dSlot,eS⟩:=rfl
def memNew (d:Disk):Mem:=⟨d,List.replicate 21 false,[],1⟩
theorem MemNew_eq {n:Nat} (hn:FUEL<=n) (d:Disk) (hd:SzDisk d) (k:Mem->Option R):s_MemNew n d k=k (memNew d):=by
 simp only [s_MemNew]
 rw [l07Copy_eq hn d hd]; rfl
theorem u8_range (n:Int):0<=IntKind.u8.wrap n/\IntKind.u8.wrap n<256:=by
 simp only [IntKind.wrap,IntKind.signed,IntKind.bits]
 simp
 omega
theorem byteOk_u8 (n:Int):byteOk (IntKind.u8.wrap n)=true:=by
 have:=u8_range n
 simp only [byteOk,Bool.and_eq_true,decide_eq_true_eq]; exact this
def by8 (n:Int):UInt8:=UInt8.ofNat (IntKind.u8.wrap n).toNat
theorem by8_def (n:Int):UInt8.ofNat (IntKind.u8.wrap n).toNat=by8 n:=rfl
def bitsN:List Bool->Nat->Nat
 | [],_=>0
 | b::l,w=>(bif b then w else 0)+bitsN l (2*w)
def byteOfBits (l:List Bool):Int:=bitsN l 1
theorem l05Byte_loop (l:List Bool) (hl:l.length<=60) (q:Int->Option R):∀ (k m i x w:Nat),i+k=l.length->k<m->x<w->w*2 ^ k<=1152921504606846976 ->
  s_l05Byte_l4 l q m (x:Int) (w:Int) (i:Int)=q ((x+bitsN (l.drop i) w:Nat):Int)
 | 0,0,i,x,w,h1,h2,h0,h3=>by omega
 | 0,m+1,i,x,w,h1,h2,h0,h3=>by
  have:i=l.length:=by omega
  subst this
  simp [s_l05Byte_l4,bitsN]
 | k+1,0,i,x,w,h1,h2,h0,h3=>by omega
 | k+1,m+1,i,x,w,h1,h2,h0,h3=>by
  have hi:i<l.length:=by omega
  have hp:0<2 ^ k:=Nat.pos_of_ne_zero (by simp)
  have hw:w*2 ^ (k+1)=2*w*2 ^ k:=by rw [Nat.pow_succ,Nat.mul_comm 2 w,Nat.mul_assoc,Nat.mul_comm 2]
  have hw2:2*w<=2*w*2 ^ k:=Nat.le_mul_of_pos_right _ hp
  simp only [s_l05Byte_l4,lt_nat,inR_nat,hi,decide_true,cond_true,chk_t,Int.toNat_natCast]
  rw [drop_getD false hi,show (2:Int)*(w:Int)=((2*w:Nat):Int) by omega,w64_nat (by omega),w64_suc (by omega),← Int.natCast_add,w64_nat (by omega)]
  cases hb:l.getD i false with
  | true =>
   simp only [cond_true,bitsN]
   rw [l05Byte_loop l hl q k m (i+1) (x+w) (2*w) (by omega) (by omega) (by omega) (by omega),← Nat.add_assoc]
  | false =>
   simp only [cond_false,bitsN,Nat.zero_add]
   rw [l05Byte_loop l hl q k m (i+1) x (2*w) (by omega) (by omega) (by omega) (by omega)]
theorem l05Byte_eq {n:Nat} (hn:FUEL<=n) (l:List Bool) (hl:l.length<=60) (k:Int->Option R):s_l05Byte n l k=k (IntKind.u8.wrap (byteOfBits l)):=by
 simp only [s_l05Byte]
 have hp:(2:Nat) ^ l.length<=2 ^ 60:=Nat.pow_le_pow_right (by decide) hl
 have h2:(2:Nat) ^ 60=1152921504606846976:=rfl
 have:=l05Byte_loop (R:=R) l hl (fun xn=>k (IntKind.u8.wrap xn)) l.length n 0 0 1 (by omega) (fuel_lt hn (by omega)) (by omega) (by omega)
 rw [List.drop_zero,Nat.zero_add] at this
 exact this
def bitsText (b:Bits):ByteArray:=bif bitsOk b then mkS [by8 (byteOfBits (b.Blocks.take 8)),by8 (byteOfBits (b.Blocks.drop 8)),by8 (byteOfBits b.Inos)] else eS
theorem BitsText_eq {n:Nat} (hn:FUEL<=n) (b:Bits) (k:ByteArray->Bool->Option R):s_BitsText n b k=k (bitsText b) (bitsOk b):=by
 simp only [s_BitsText,BitsOk_eq,bitsText]
 cases hb:bitsOk b with
 | false=>rfl
 | true =>
  simp only [bitsOk,Bool.and_eq_true,beq_iff_eq] at hb
  obtain ⟨h1,h2⟩:=hb
  simp only [Bool.not_true,cond_false,cond_true]
  rw [chk_of (by simp [loOk,h1]),l05Byte_eq hn _ (by simp [sub]; omega),chk_of (by simp [loOk,h1]),l05Byte_eq hn _ (by simp [sub]; omega),l05Byte_eq hn _ (by omega)]
  simp only [by8_def,byteOk_u8,Bool.and_true,chk_t]
  have e1:sub b.Blocks 0 8=b.Blocks.take 8:=by simp [sub]
  have e2:sub b.Blocks 8 (b.Blocks.length-8)=b.Blocks.drop 8:=by
   simp only [sub]; rw [List.take_of_length_le (by simp)]
  rw [e1,e2]
def inodeText (x:Inode):ByteArray:=bif inodeOk x then mkS [by8 x.Kind,by8 x.Links,by8 (x.Ptrs.getD 0 0),by8 (x.Ptrs.getD 1 0)] else eS
theorem inodeOk_len {x:Inode} (h:inodeOk x=true):x.Ptrs.length=2:=by
 simp only [inodeOk,Bool.and_eq_true,beq_iff_eq] at h
 exact h.2.2.1
theorem InodeText_eq {n:Nat} (hn:FUEL<=n) (x:Inode) (k:ByteArray->Bool->Option R):s_InodeText n x k=k (inodeText x) (inodeOk x):=by
 simp only [s_InodeText,InodeOk_eq hn,inodeText]
 cases hb:inodeOk x with
 | false=>rfl
 | true =>
  have hl:=inodeOk_len hb
  simp only [Bool.not_true,cond_false,cond_true,by8_def,byteOk_u8,Bool.and_true,chk_t]
  rw [chk_of (by simp [inR,hl]),chk_of (by simp [inR,hl])]
def varI:Nat->Nat->List UInt8×Nat
 | 0,x=>([],x)
 | f+1,x=>bif decide (127<x) then (by8 (x % 128+128:Nat)::(varI f (x/128)).1,(varI f (x/128)).2) else ([],x)
def varL (n:Nat):ByteArray:=mkS ((varI 9 n).1++[by8 (varI 9 n).2])
theorem varI_len:∀ f x,(varI f x).1.length<=f
 | 0,x=>by simp [varI]
 | f+1,x=>by
  simp only [varI]
  cases decide (127<x) with
  | true=>simp only [cond_true,List.length_cons]; have:=varI_len f (x/128); omega
  | false=>simp
theorem varI_small {f x:Nat} (h:x<=127):varI f x=([],x):=by
 cases f with
 | zero=>rfl
 | succ f=>simp only [varI]; rw [decide_eq_false (by omega)]; rfl
theorem l01Var_loop (Q:Int->List UInt8->Option R):∀ (f x m:Nat) (acc:List UInt8),x<128 ^ (f+1)->x<=4611686018427387904->f<m->acc.length+f<=100 ->
  s_l01Var_l2 Q m (x:Int) acc=Q ((varI f x).2:Int) (acc++(varI f x).1)
 | f,x,0,acc,h1,hb,h2,h3=>by omega
 | f,x,m+1,acc,h1,hb,h2,h3=>by
  simp only [s_l01Var_l2,byteOk_u8,Bool.and_true,chk_t]
  have hd:decide ((127:Int)<(x:Int))=decide (127<x):=decide_eq_decide.2 (by omega)
  rw [hd]
  by_cases hx:127<x
  ·cases f with
   | zero=>simp at h1; omega
   | succ f =>
    rw [decide_eq_true hx,bif_t,Int.tmod_eq_emod_of_nonneg (by omega),Int.tdiv_eq_ediv_of_nonneg (by omega),show (x:Int) % 128+128=((x % 128+128:Nat):Int) by omega,show (x:Int)/128=((x/128:Nat):Int) by omega,
     w64_nat (by omega),w64_nat (by omega),by8_def,chk_of (lenOk_of (by rw [List.length_append,List.length_singleton]; omega)),
     l01Var_loop Q f (x/128) m _ (by rw [Nat.div_lt_iff_lt_mul (by decide),← Nat.pow_succ]; exact h1) (by omega) (by omega) (by rw [List.length_append,List.length_singleton]; omega),List.append_assoc]
    simp only [varI,decide_eq_true hx,cond_true]
    rfl
  ·rw [decide_eq_false hx,bif_f,varI_small (by omega)]
   simp
theorem l01Var_eq {n:Nat} (hn:FUEL<=n) (x:Nat) (hx:x<=1152921504606846976) (k:ByteArray->Option R):s_l01Var n x k=k (varL x):=by
 simp only [s_l01Var,varL]
 rw [l01Var_loop _ 9 x n [] (by omega) (by omega) (fuel_lt hn (by omega)) (by simp)]
 have:=varI_len 9 x
 simp only [byteOk_u8,Bool.and_true,chk_t,List.nil_append,by8_def]
 rw [chk_of (lenOk_of (by rw [List.length_append,List.length_singleton]; omega))]
def slotT (s:Slot):ByteArray:=mkS [by8 s.Ino]++varL s.Name.size++s.Name
def slotsT (a:ByteArray) (l:List Slot):ByteArray:=l.foldl (fun a s=>a++slotT s) a
def blockText (b:Block):ByteArray:=bif blockOk b then (bif b.Dir then slotsT (S [100]) b.Slots else S [116]++b.Text) else eS
theorem ba_assoc (a b c:ByteArray):(a++b)++c=a++(b++c):=by
 apply ByteArray.ext
 simp [ByteArray.data_append,Array.append_assoc]
theorem varL_size (x:Nat):(varL x).size<=10:=by
 have:=varI_len 9 x
 show ((varI 9 x).1++[by8 (varI 9 x).2]).length<=10
 rw [List.length_append,List.length_singleton]; omega
theorem mkS_size (l:List UInt8):(mkS l).size=l.length:=rfl
theorem slotT_size (s:Slot):(slotT s).size<=11+s.Name.size:=by
 have:=varL_size s.Name.size
 simp only [slotT,ByteArray.size_append,mkS_size,List.length_singleton]; omega
theorem nameOk_size {s:ByteArray} (h:nameOk s=true):1<=s.size/\s.size<=6:=by
 simp only [nameOk,within,Bool.and_eq_true,decide_eq_true_eq] at h
 omega
theorem slotB_size {l:List Slot} {i:Nat} (h:slotB l i=true):(l.getD i dSlot).Name.size<=6:=by
 simp only [slotB,Bool.or_eq_true,Bool.and_eq_true,beq_iff_eq] at h
 rcases h with ⟨h,_⟩ | ⟨⟨h,_⟩,_⟩
 ·rw [h]; decide
 ·exact (nameOk_size h).2
theorem range_all {n:Nat} {p:Nat->Bool} (h:(List.range' 0 n).all p=true) {i:Nat} (hi:i<n):p i=true:=by
 rw [List.all_eq_true] at h
 exact h i (by simp [List.mem_range']; omega)
theorem BlockText_eq {n:Nat} (hn:FUEL<=n) (b:Block) (hb:SzBlock b) (k:ByteArray->Bool->Option R):s_BlockText n b k=k (blockText b) (blockOk b):=by
 simp only [s_BlockText,BlockOk_eq hn b hb,blockText]
 cases hok:blockOk b with
 | false=>rfl
 | true =>
  simp only [Bool.not_true,cond_false,cond_true]
  cases hd:b.Dir with
  | false =>
   have h2:b.Text.size<=2097152:=hb.2.1
   simp only [Bool.not_false,cond_true,cond_false]
   rw [chk_of (sizeOk_of (by have:(S [116]).size=1:=rfl; omega))]
  | true =>
   simp only [blockOk,hd,cond_true,Bool.and_eq_true,beq_iff_eq] at hok
   obtain ⟨⟨hl,_⟩,hs⟩:=hok
   simp only [Bool.not_true,cond_false,cond_true]
   have loop:∀ (j m i:Nat) (a:ByteArray),i+j=4->j<m->a.size<=1+17*i->s_BlockText_l7 n b.Slots (fun s=>k s true) m a (i:Int)=k (slotsT a (b.Slots.drop i)) true:=by
    intro j
    induction j with
    | zero =>
     intro m i a h1 h2 h3
     have:i=4:=by omega
     subst this
     cases m with
     | zero=>omega
     | succ m=>rw [List.drop_of_length_le (by omega)]; simp [s_BlockText_l7,slotsT]
    | succ j ih =>
     intro m i a h1 h2 h3
     cases m with
     | zero=>omega
     | succ m =>
      have hi:i<b.Slots.length:=by omega
      have hsz:=slotB_size (range_all hs (i:=i) (by omega))
      have hv:=varL_size (b.Slots.getD i dSlot).Name.size
      have hst:=slotT_size (b.Slots.getD i dSlot)
      simp only [s_BlockText_l7,inR_nat,hi,decide_true,chk_t,Int.toNat_natCast,byteOk_u8,Bool.and_true,by8_def]
      rw [show decide ((i:Int)<4)=true by simp; omega,bif_t,l01Var_eq hn _ (by omega),chk_of (sizeOk_of (by rw [mkS_size,List.length_singleton]; omega)),
       chk_of (sizeOk_of (by rw [ByteArray.size_append,mkS_size,List.length_singleton]; omega)),chk_of (sizeOk_of (by rw [ByteArray.size_append,ByteArray.size_append,mkS_size,List.length_singleton]; omega)),w64_suc (by omega),
       drop_getD dSlot hi,ba_assoc,ba_assoc,← ba_assoc (mkS _)]
      exact ih m (i+1) _ (by omega) (by omega) (by
       show (a++slotT (b.Slots.getD i dSlot)).size<=_
       rw [ByteArray.size_append]; omega)
   have:=loop 4 n 0 (S [100]) rfl (fuel_lt hn (by omega)) (by decide)
   rw [List.drop_zero] at this
   exact this
def inoAt (d:Disk) (i:Int):Inode:=d.Inodes.getD (i-1).toNat dInode
def blkAt (d:Disk) (p:Int):Block:=d.Blocks.getD (p-1).toNat dBlock
theorem within_iff {x a b:Int}:within x a b=true↔a<=x/\x<=b:=by simp [within]
theorem w64_pred {x:Int} (h1:0<=x) (h2:x<=9223372036854775807):w64 (x-1)=x-1:=w64_id (by omega) (by omega)
theorem inR_pred {x:Int} {n:Nat} (h1:1<=x) (h2:x<=n):inR (x-1) n=true:=by
 simp only [inR,Bool.and_eq_true,decide_eq_true_eq]; omega
def block? (d:Disk) (p:Int):Block×Bool:=bif within p 1 d.Blocks.length then (blkAt d p,true) else (dBlock,false)
theorem l11Block_eq (d:Disk) (hd:d.Blocks.length<=LEN) (p:Int) (k:Block->Bool->Option R):s_l11Block d p k=k (block? d p).1 (block? d p).2:=by
 have hd:d.Blocks.length<=2097152:=hd
 simp only [s_l11Block,In_eq,block?]
 cases h:within p 1 d.Blocks.length with
 | false=>rfl
 | true =>
  rw [within_iff] at h
  simp only [Bool.not_true,cond_false,cond_true]
  rw [w64_pred (by omega) (by omega),chk_of (inR_pred h.1 h.2)]
  rfl
def has (l:List Int) (x:Int):Bool:=l.any (·==x)
theorem not_all {α:Type} (P:α->Bool) (l:List α):l.all (fun x=> !P x)= !l.any P:=by
 induction l with
 | nil=>rfl
 | cons x l ih=>simp only [List.all_cons,List.any_cons,ih,Bool.not_or]
theorem l10Has_eq {n:Nat} (hn:FUEL<=n) (l:List Int) (hl:l.length<=LEN) (x:Int) (k:Bool->Option R):s_l10Has n l x k=k (has l x):=by
 have hl':l.length<=2097152:=hl
 have:=loop_list (R:=R) (L:=s_l10Has_l2 x l (fun x_1=>k x_1) (k false)) (l:=l) 0 (B:=0) (P:=fun y=> !(y==x)) (e:=k true) (q:=k false) (by omega)
  (fun m i _ hi=>by
   simp only [s_l10Has_l2,lt_nat,inR_nat,hi,decide_true,chk_t,cond_true,Int.toNat_natCast]
   cases l.getD i 0==x<;>rfl) (fun m=>by simp [s_l10Has_l2]) (n:=n) (fuel_lt hn (by omega))
 refine this.trans ?_
 rw [not_all (fun y=>y==x),has]
 cases l.any fun y=>y==x<;>rfl
def firstFree (l:List Bool):Int:=match placeIn (fun b=> !b) l with | .ofNat j=>((j+1:Nat):Int) | _=>0
theorem FirstFree_eq {n:Nat} (hn:FUEL<=n) (l:List Bool) (hl:l.length<=LEN) (k:Int->Option R):s_FirstFree n l k=k (firstFree l):=by
 have hl':l.length<=2097152:=hl
 have:=loop_find (R:=R) (L:=s_FirstFree_l2 l (fun x=>k x) (k 0)) (len:=l.length) (B:=0) (p:=fun i=> !(l.getD i false)) (e:=fun i=>k (w64 (i+1))) (q:=k 0) (by omega)
  (fun m i _ hi=>by
   simp only [s_FirstFree_l2,lt_nat,inR_nat,hi,decide_true,chk_t,cond_true,Int.toNat_natCast]) (fun m=>by simp [s_FirstFree_l2]) l.length n 0 (by omega) (fuel_lt hn (by omega))
 refine this.trans ?_
 have h2:=find_place (fun b:Bool=> !b) false l l 0 rfl (by omega)
 simp only [Nat.sub_zero,Nat.zero_add] at h2
 have h3:∀ j,List.find? (fun i=> !l.getD i false) (List.range' 0 l.length)=some j->j<l.length:=by
  intro j hj
  have:=List.mem_of_find?_eq_some hj
  simp [List.mem_range'] at this
  omega
 rcases placeIn_ge (fun b:Bool=> !b) l with h | ⟨j,h,hj⟩
 ·rw [h] at h2
  cases hf:List.find? (fun i=> !l.getD i false) (List.range' 0 l.length) with
  | none=>simp only [firstFree,h]
  | some j=>rw [hf] at h2; simp only at h2; omega
 ·rw [h] at h2
  cases hf:List.find? (fun i=> !l.getD i false) (List.range' 0 l.length) with
  | none=>rw [hf] at h2; simp only at h2; omega
  | some j' =>
   rw [hf] at h2
   have h4:(j':Int)=(j:Int):=h2
   have:j'=j:=by omega
   subst this
   simp only [firstFree,h]
   rw [w64_suc (by omega)]
theorem firstFree_spec (l:List Bool):(firstFree l=0/\l.all id=true)\/∃ j:Nat,firstFree l=j+1/\j<l.length/\l.getD j false=false/\(l.take j).all id=true:=by
 simp only [firstFree]
 have key:∀ l:List Bool,(placeIn (fun b=> !b) l= -1/\l.all id=true)\/∃ j:Nat,placeIn (fun b=> !b) l=j/\j<l.length/\l.getD j false=false/\(l.take j).all id=true:=by
  intro l
  induction l with
  | nil=>exact .inl ⟨rfl,rfl⟩
  | cons x l ih =>
   simp only [placeIn]
   cases x with
   | false=>exact .inr ⟨0,rfl,by simp,rfl,rfl⟩
   | true =>
    rcases ih with ⟨h,h2⟩ | ⟨j,h,h2,h3,h4⟩
    ·rw [h]; exact .inl ⟨rfl,by simpa using h2⟩
    ·rw [h]; exact .inr ⟨j+1,rfl,by simp; omega,by simpa using h3,by simpa using h4⟩
 rcases key l with ⟨h,h2⟩ | ⟨j,h,h2⟩
 ·rw [h]; exact .inl ⟨rfl,h2⟩
 ·rw [h]; exact .inr ⟨j,rfl,h2⟩
def unitOfIno (i:Int):Int:=bif within i 1 8 then 1+(i-1)/2 else -1
theorem UnitOfIno_eq (i:Int) (k:Int->Option R):s_UnitOfIno i k=k (unitOfIno i):=by
 simp only [s_UnitOfIno,In_eq,unitOfIno]
 cases h:within i 1 8 with
 | false=>rfl
 | true =>
  rw [within_iff] at h
  simp only [Bool.not_true,cond_false,cond_true]
  rw [w64_id (n:=i-1) (by omega) (by omega),Int.tdiv_eq_ediv_of_nonneg (by omega),w64_id (n:=(i-1)/2) (by omega) (by omega),w64_id (by omega) (by omega)]
def unitOfBlock (p:Int):Int:=bif within p 1 16 then p+4 else -1
theorem UnitOfBlock_eq (p:Int) (k:Int->Option R):s_UnitOfBlock p k=k (unitOfBlock p):=by
 simp only [s_UnitOfBlock,In_eq,unitOfBlock]
 cases h:within p 1 16 with
 | false=>rfl
 | true =>
  rw [within_iff] at h
  simp only [Bool.not_true,cond_false,cond_true]
  rw [w64_id (by omega) (by omega)]
def mark (u:Int) (m:Mem):Mem:=bif decide (0<=u)&&decide (u<m.Dirty.length) then { m with Dirty:=m.Dirty.set u.toNat true } else m
theorem l08Mark_eq (u:Int) (m:Mem) (k:Mem->Option R):s_l08Mark u m k=k (mark u m):=by
 simp only [s_l08Mark,mark]
 cases h:decide (0<=u)&&decide (u<(m.Dirty.length:Int)) with
 | false=>rfl
 | true =>
  simp only [cond_true]
  rw [chk_of (by simpa [inR] using h)]
def takeBlock (m:Mem):Mem×Int:=bif firstFree m.Disk.Bits.Blocks==0 then (m,0) else
 (mark 0 { m with Disk:={ m.Disk with Bits:={ m.Disk.Bits with Blocks:=m.Disk.Bits.Blocks.set (firstFree m.Disk.Bits.Blocks-1).toNat true } } },firstFree m.Disk.Bits.Blocks)
def takeIno (m:Mem):Mem×Int:=bif firstFree m.Disk.Bits.Inos==0 then (m,0) else
 (mark 0 { m with Disk:={ m.Disk with Bits:={ m.Disk.Bits with Inos:=m.Disk.Bits.Inos.set (firstFree m.Disk.Bits.Inos-1).toNat true } } },firstFree m.Disk.Bits.Inos)
theorem firstFree_range (l:List Bool) (h:(firstFree l==0)=false):1<=firstFree l/\firstFree l<=l.length:=by
 rcases firstFree_spec l with ⟨h1,_⟩ | ⟨j,h1,h2,_⟩
 ·rw [h1] at h; cases h
 ·omega
theorem TakeBlock_eq {n:Nat} (hn:FUEL<=n) (m:Mem) (hm:SzMem m) (k:Mem->Int->Option R):s_TakeBlock n m k=k (takeBlock m).1 (takeBlock m).2:=by
 have hl:m.Disk.Bits.Blocks.length<=2097152:=hm.d.bb
 simp only [s_TakeBlock,takeBlock]
 rw [l08Copy_eq hn m hm,FirstFree_eq hn _ hm.d.bb]
 cases h:firstFree m.Disk.Bits.Blocks==0 with
 | true=>rfl
 | false =>
  have:=firstFree_range _ h
  simp only [cond_false]
  rw [w64_pred (by omega) (by omega),chk_of (inR_pred this.1 this.2),l08Mark_eq]
  simp only [mark]
  cases decide ((0:Int)<=0)&&decide ((0:Int)<(m.Dirty.length:Int))<;>rfl
theorem TakeIno_eq {n:Nat} (hn:FUEL<=n) (m:Mem) (hm:SzMem m) (k:Mem->Int->Option R):s_TakeIno n m k=k (takeIno m).1 (takeIno m).2:=by
 have hl:m.Disk.Bits.Inos.length<=2097152:=hm.d.bi
 simp only [s_TakeIno,takeIno]
 rw [l08Copy_eq hn m hm,FirstFree_eq hn _ hm.d.bi]
 cases h:firstFree m.Disk.Bits.Inos==0 with
 | true=>rfl
 | false =>
  have:=firstFree_range _ h
  simp only [cond_false]
  rw [w64_pred (by omega) (by omega),chk_of (inR_pred this.1 this.2),l08Mark_eq]
  simp only [mark]
  cases decide ((0:Int)<=0)&&decide ((0:Int)<(m.Dirty.length:Int))<;>rfl
def mayPut (m:Mem):Bool:=decide (m.Deps.length<40)&&within m.Next 1 99999
def putDep (m:Mem) (d:Dep):Mem×Int:=bif mayPut m then ({ m with Deps:=m.Deps++[{ d with Id:=m.Next }],Next:=m.Next+1 },m.Next) else (m,0)
theorem PutDep_eq {n:Nat} (hn:FUEL<=n) (m:Mem) (hm:SzMem m) (d:Dep) (hd:d.Blocks.length<=LEN) (k:Mem->Int->Option R):s_PutDep n m d k=k (putDep m d).1 (putDep m d).2:=by
 have hd':d.Blocks.length<=2097152:=hd
 have hdp:m.Deps.length<=2097152:=hm.dp
 simp only [s_PutDep,putDep,mayPut,In_eq]
 rw [l08Copy_eq hn m hm]
 have e1:decide ((40:Int)<=(m.Deps.length:Int))= !decide (m.Deps.length<40):=by
  by_cases h:m.Deps.length<40<;>simp [h]<;>omega
 rw [e1]
 cases h1:decide (m.Deps.length<40) with
 | false=>rfl
 | true =>
  cases h2:within m.Next 1 99999 with
  | false=>rfl
  | true =>
   rw [within_iff] at h2
   simp only [Bool.not_true,Bool.not_false,Bool.or_false,cond_false,cond_true,Bool.and_true,List.nil_append]
   rw [chk_of (lenOk_of (by omega)),chk_of (lenOk_of (by rw [List.length_append,List.length_singleton]; omega)),w64_id (by omega) (by omega)]
def dropDep (m:Mem) (id:Int):Mem:={ m with Deps:=m.Deps.filter fun d=> !(d.Id==id) }
def firstOr {α β:Type} (P:α->Bool) (f:α->β) (z:β):List α->β
 | []=>z
 | x::l=>bif P x then f x else firstOr P f z l
theorem find_first {α β:Type} (P:α->Bool) (f:α->β) (z:β) (d:α) (l:List α):∀ (s:List α) (i:Nat),s=l.drop i->i<=l.length ->
  (match (List.range' i (l.length-i)).find? (fun j=>P (l.getD j d)) with | some j=>f (l.getD j d) | none=>z)=firstOr P f z s
 | [],i,h,hi=>by
  have:l.length<=i:=by
   have:=congrArg List.length h; simp at this; omega
  rw [show l.length-i=0 by omega]; rfl
 | x::s,i,h,hi=>by
  have hlt:i<l.length:=by
   have:=congrArg List.length h; simp at this; omega
  have hx:l.getD i d=x:=by
   have:=congrArg (fun l=>l[0]?) h
   simp only [List.getElem?_cons_zero,List.getElem?_drop,Nat.add_zero] at this
   simp [List.getD_eq_getElem?_getD,← this]
  have hs:s=l.drop (i+1):=by
   have:=congrArg List.tail h
   simpa [List.tail_drop] using this
  obtain ⟨k,hk⟩:∃ k,l.length-i=k+1:=⟨l.length-i-1,by omega⟩
  rw [hk,List.range'_succ,List.find?_cons,hx]
  simp only [firstOr]
  cases hp:P x with
  | true=>simp only [cond_true,hx]
  | false =>
   have ih:=find_first P f z d l s (i+1) hs (by omega)
   rw [show l.length-(i+1)=k by omega] at ih
   simp only [cond_false]
   exact ih
theorem loop_first {α:Type} {L:Nat->Int->Option R} {l:List α} (d:α) {B:Nat} {P:α->Bool} {e:α->Option R} {q:Option R} (hl:l.length<=4611686018427387904)
  (hs:∀ m i,B<m->i<l.length->L (m+1) (i:Int)=bif P (l.getD i d) then e (l.getD i d) else L m (w64 ((i:Int)+1))) (hq:∀ m,L (m+1) (l.length:Int)=q)
  {n:Nat} (hn:l.length+B<n):L n 0=firstOr P e q l:=by
 have:=loop_find (R:=R) (p:=fun i=>P (l.getD i d)) (e:=fun i=>e (l.getD i.toNat d)) hl (fun m i h1 h2=>by rw [Int.toNat_natCast]; exact hs m i h1 h2) hq l.length n 0 (by omega) hn
 refine this.trans ?_
 rw [← find_first P e q d l l 0 rfl (by omega),Nat.sub_zero]
 cases List.find? _ _ with
 | none=>rfl
 | some j=>simp
theorem firstOr_k {α β γ:Type} (k:β->γ) (P:α->Bool) (f:α->β) (z:β):∀ l:List α,firstOr P (fun x=>k (f x)) (k z) l=k (firstOr P f z l)
 | []=>rfl
 | x::l=>by simp only [firstOr,firstOr_k k P f z l]; cases P x<;>rfl
def isNm (d:Dep):Bool:=((d.Kind==2)||(d.Kind==3))||(d.Kind==4)
def depAt (m:Mem) (block slot:Int):Int:=firstOr (fun d=>(isNm d&&(d.Block==block))&&(d.Slot==slot)) (·.Id) 0 m.Deps
theorem DepAt_eq {n:Nat} (hn:FUEL<=n) (m:Mem) (hm:m.Deps.length<=LEN) (block slot:Int) (k:Int->Option R):s_DepAt n m block slot k=k (depAt m block slot):=by
 have hm':m.Deps.length<=2097152:=hm
 have:=loop_first (R:=R) (L:=s_DepAt_l2 block slot m.Deps (fun x=>k x) (k 0)) (l:=m.Deps) dDep (B:=0) (P:=fun d=>(isNm d&&(d.Block==block))&&(d.Slot==slot)) (e:=fun d=>k d.Id) (q:=k 0) (by omega)
  (fun m i _ hi=>by
   simp only [s_DepAt_l2,s_l08Name,lt_nat,inR_nat,hi,decide_true,chk_t,cond_true,Int.toNat_natCast,isNm]) (fun m=>by simp [s_DepAt_l2]) (n:=n) (fuel_lt hn (by omega))
 exact this.trans (firstOr_k k _ _ _ _)
def kindOf (m:Mem) (id:Int):Int:=firstOr (fun d=>d.Id==id) (·.Kind) 0 m.Deps
theorem l12Kind_eq {n:Nat} (hn:FUEL<=n) (id:Int) (m:Mem) (hm:m.Deps.length<=LEN) (k:Int->Mem->Option R):s_l12Kind n id m k=k (kindOf m id) m:=by
 have hm':m.Deps.length<=2097152:=hm
 have:=loop_first (R:=R) (L:=s_l12Kind_l2 id m.Deps (fun x=>k x m) (k 0 m)) (l:=m.Deps) dDep (B:=0) (P:=fun d=>d.Id==id) (e:=fun d=>k d.Kind m) (q:=k 0 m) (by omega)
  (fun m i _ hi=>by
   simp only [s_l12Kind_l2,lt_nat,inR_nat,hi,decide_true,chk_t,cond_true,Int.toNat_natCast]) (fun m=>by simp [s_l12Kind_l2]) (n:=n) (fuel_lt hn (by omega))
 exact this.trans (firstOr_k (fun x=>k x m) _ _ _ _)
theorem loop_filter {α:Type} {L:Nat->Int->List α->Option R} {l:List α} (d:α) {P:α->Bool} {B:Nat} {q:List α->Option R} (hl:l.length<=4611686018427387904)
  (hs:∀ m i acc,B<m->i<l.length->acc.length<=i->L (m+1) (i:Int) acc=bif P (l.getD i d) then L m (w64 ((i:Int)+1)) (acc++[l.getD i d]) else L m (w64 ((i:Int)+1)) acc)
  (hq:∀ m acc,L (m+1) (l.length:Int) acc=q acc) {n:Nat} (hn:l.length+B<n):L n 0 []=q (l.filter P):=by
 have:=loop_flat (R:=R) (l:=l) d (f:=fun x=>bif P x then [x] else []) (C:=1) hl (fun x _=>by cases P x<;>simp) (fun m i acc h1 h2 h3=>by
  rw [hs m i acc h1 h2 (by omega)]
  cases P (l.getD i d) with
  | true=>rfl
  | false=>simp only [cond_false,List.append_nil]) hq l.length n 0 [] (by omega) hn (by simp)
 rw [List.drop_zero,List.nil_append] at this
 refine this.trans ?_
 congr 1
 clear this hn hq hs hl
 induction l with
 | nil=>rfl
 | cons x l ih =>
  rw [List.flatMap_cons,ih,List.filter_cons]
  cases P x<;>rfl
theorem DropDep_eq {n:Nat} (hn:FUEL<=n) (m:Mem) (hm:SzMem m) (id:Int) (k:Mem->Option R):s_DropDep n m id k=k (dropDep m id):=by
 have hm':m.Deps.length<=2097152:=hm.dp
 simp only [s_DropDep]
 rw [l08Copy_eq hn m hm]
 have:=loop_filter (R:=R) (L:=s_DropDep_l4 id m.Deps (fun list=>k ⟨m.Disk,m.Dirty,list,m.Next⟩)) (l:=m.Deps) dDep (P:=fun d=> !(d.Id==id)) (B:=0) (q:=fun list=>k ⟨m.Disk,m.Dirty,list,m.Next⟩) (by omega)
  (fun m i acc _ hi ha=>by
   simp only [s_DropDep_l4,lt_nat,inR_nat,hi,decide_true,chk_t,cond_true,Int.toNat_natCast]
   rw [chk_of (lenOk_app ha (by omega) (by simp))]) (fun m acc=>by simp [s_DropDep_l4]) (n:=n) (fuel_lt hn (by omega))
 exact this
def depKind (m:Mem) (d:Dep):Bool :=
 bif (d.Kind==1)||(d.Kind==6) then decide (0<d.Block)&&((inoAt m.Disk d.Ino).Ptrs.getD d.Ptr.toNat 0==d.Block)
 else bif (d.Kind==2)||(d.Kind==3) then (decide (0<d.Block)&&(blkAt m.Disk d.Block).Dir)&&(((blkAt m.Disk d.Block).Slots.getD d.Slot.toNat dSlot).Ino==d.Ino)
 else bif d.Kind==4 then (decide (0<d.Block)&&(blkAt m.Disk d.Block).Dir)&&nameOk d.Name else true
def depNums (m:Mem) (d:Dep):Bool:=within d.Id 1 (m.Next-1)&&(within d.Kind 1 6&&(within d.Ino 1 8&&(within d.Ptr 0 1&&(within d.Block 0 16&&(within d.Slot 0 3&&within d.After 0 (m.Next-1))))))
def depOk (m:Mem) (i:Nat):Bool:=depNums m (m.Deps.getD i dDep)&&((m.Deps.getD i dDep).Blocks.all (fun p=>within p 1 16)&&((List.range' 0 i).all (fun j=> !((m.Deps.getD j dDep).Id==(m.Deps.getD i dDep).Id))&&depKind m (m.Deps.getD i dDep)))
def memOk (m:Mem):Bool:=(diskOk m.Disk&&(m.Dirty.length==21&&(decide (m.Deps.length<=40)&&within m.Next 1 100000)))&&(List.range' 0 m.Deps.length).all (depOk m)
structure DiskR (d:Disk):Prop where
 bb:d.Bits.Blocks.length=16
 bi:d.Bits.Inos.length=8
 di:d.Inodes.length=8
 db:d.Blocks.length=16
 ino:∀ x∈d.Inodes,inodeOk x=true
 blk:∀ b∈d.Blocks,blockOk b=true
theorem diskOk_iff {d:Disk}:diskOk d=true↔DiskR d:=by
 simp only [diskOk,bitsOk,Bool.and_eq_true,beq_iff_eq,List.all_eq_true]
 exact ⟨fun ⟨⟨⟨h1,h2⟩,h3,h4⟩,h5,h6⟩=>⟨h1,h2,h3,h4,h5,h6⟩,fun h=>⟨⟨⟨h.bb,h.bi⟩,h.di,h.db⟩,h.ino,h.blk⟩⟩
theorem DiskR.inoR {d:Disk} (h:DiskR d) {i:Int} (h1:1<=i) (h2:i<=8):inodeOk (inoAt d i)=true:=h.ino _ (getD_mem dInode (by rw [h.di]; omega))
theorem DiskR.blkR {d:Disk} (h:DiskR d) {p:Int} (h1:1<=p) (h2:p<=16):blockOk (blkAt d p)=true:=h.blk _ (getD_mem dBlock (by rw [h.db]; omega))
theorem DiskR.ptrs {d:Disk} (h:DiskR d) {i:Int} (h1:1<=i) (h2:i<=8):(inoAt d i).Ptrs.length=2:=inodeOk_len (h.inoR h1 h2)
theorem blockOk_slots {b:Block} (h:blockOk b=true) (hd:b.Dir=true):b.Slots.length=4:=by
 simp only [blockOk,hd,cond_true,Bool.and_eq_true,beq_iff_eq] at h
 exact h.1.1
theorem l08Dep_tail {n:Nat} (hn:FUEL<=n) (m:Mem) (hd:DiskR m.Disk) (el:Dep) (hsz:el.Name.size<=LEN) (hK:1<=el.Kind/\el.Kind<=6) (hI:1<=el.Ino/\el.Ino<=8) (hP:0<=el.Ptr/\el.Ptr<=1) (hB:0<=el.Block/\el.Block<=16) (hS:0<=el.Slot/\el.Slot<=3)
  (T:(Bool->Option R)->Option R) (k:Bool->Option R)
  (h1:el.Kind=1\/el.Kind=6->T k=chk (!(decide (0<el.Block))||(inR (w64 (el.Ino-1)) m.Disk.Inodes.length)) (chk (!(decide (0<el.Block))||(inR el.Ptr (((m.Disk.Inodes.getD ((w64 (el.Ino-1)).toNat) dInode).Ptrs).length))) (k ((decide (0<el.Block))&&((((m.Disk.Inodes.getD ((w64 (el.Ino-1)).toNat) dInode).Ptrs).getD el.Ptr.toNat 0)==el.Block)))))
  (h2:el.Kind=2\/el.Kind=3->T k=chk (!(decide (0<el.Block))||(inR (w64 (el.Block-1)) m.Disk.Blocks.length)) (chk (!((decide (0<el.Block))&&((m.Disk.Blocks.getD ((w64 (el.Block-1)).toNat) dBlock).Dir))||(inR (w64 (el.Block-1)) m.Disk.Blocks.length))
   (chk (!((decide (0<el.Block))&&((m.Disk.Blocks.getD ((w64 (el.Block-1)).toNat) dBlock).Dir))||(inR el.Slot (((m.Disk.Blocks.getD ((w64 (el.Block-1)).toNat) dBlock).Slots).length)))
   (k (((decide (0<el.Block))&&((m.Disk.Blocks.getD ((w64 (el.Block-1)).toNat) dBlock).Dir))&&(((((m.Disk.Blocks.getD ((w64 (el.Block-1)).toNat) dBlock).Slots).getD el.Slot.toNat dSlot).Ino)==el.Ino))))))
  (h4:el.Kind=4->T k=chk (!(decide (0<el.Block))||(inR (w64 (el.Block-1)) m.Disk.Blocks.length)) (s_NameOk n el.Name fun r =>
   k (((decide (0<el.Block))&&((m.Disk.Blocks.getD ((w64 (el.Block-1)).toNat) dBlock).Dir))&&(bif (decide (0<el.Block))&&((m.Disk.Blocks.getD ((w64 (el.Block-1)).toNat) dBlock).Dir) then r else false))))
  (h5:el.Kind=5->T k=k true):T k=k (depKind m el):=by
 have wi:w64 (el.Ino-1)=el.Ino-1:=w64_pred (by omega) (by omega)
 have wb:w64 (el.Block-1)=el.Block-1:=w64_pred (by omega) (by omega)
 have ri:inR (el.Ino-1) m.Disk.Inodes.length=true:=inR_pred hI.1 (by rw [hd.di]; omega)
 have hptr:(inoAt m.Disk el.Ino).Ptrs.length=2:=hd.ptrs hI.1 hI.2
 have rp:inR el.Ptr (inoAt m.Disk el.Ino).Ptrs.length=true:=by rw [hptr]; simp only [inR,Bool.and_eq_true,decide_eq_true_eq]; omega
 have rb:decide (0<el.Block)=true->inR (el.Block-1) m.Disk.Blocks.length=true:=fun h=>inR_pred (of_decide_eq_true h) (by rw [hd.db]; omega)
 have rb':(!(decide (0<el.Block))||inR (el.Block-1) m.Disk.Blocks.length)=true:=by
  cases h:decide (0<el.Block) with
  | false=>rfl
  | true=>rw [rb h]; rfl
 have rs:(!((decide (0<el.Block))&&(blkAt m.Disk el.Block).Dir)||inR el.Slot (blkAt m.Disk el.Block).Slots.length)=true:=by
  cases h:decide (0<el.Block) with
  | false=>rfl
  | true =>
   cases hdir:(blkAt m.Disk el.Block).Dir with
   | false=>rfl
   | true =>
    rw [blockOk_slots (hd.blkR (of_decide_eq_true h) hB.2) hdir]
    simp only [inR,Bool.and_true,Bool.not_true,Bool.false_or,Bool.and_eq_true,decide_eq_true_eq]; omega
 have rb2:(!((decide (0<el.Block))&&(blkAt m.Disk el.Block).Dir)||inR (el.Block-1) m.Disk.Blocks.length)=true:=by
  cases h:decide (0<el.Block) with
  | false=>rfl
  | true=>rw [rb h]; simp
 rcases show el.Kind=1\/el.Kind=2\/el.Kind=3\/el.Kind=4\/el.Kind=5\/el.Kind=6 by omega with h | h | h | h | h | h
 ·rw [h1 (.inl h),wi]
  simp only [depKind,h]
  rw [ri,Bool.or_true,chk_t]
  exact (chk_of (by show (!_||inR el.Ptr (inoAt m.Disk el.Ino).Ptrs.length)=true; rw [rp,Bool.or_true])).trans rfl
 ·rw [h2 (.inl h),wb]
  simp only [depKind,h]
  rw [rb',chk_t]
  exact (chk_of rb2).trans ((chk_of rs).trans rfl)
 ·rw [h2 (.inr h),wb]
  simp only [depKind,h]
  rw [rb',chk_t]
  exact (chk_of rb2).trans ((chk_of rs).trans rfl)
 ·rw [h4 h,wb,rb',chk_t,NameOk_eq hn _ hsz]
  simp only [depKind,h]
  show k _=k (((decide (0<el.Block))&&(blkAt m.Disk el.Block).Dir)&&nameOk el.Name)
  congr 1
  show (((decide (0<el.Block))&&(blkAt m.Disk el.Block).Dir)&&(bif ((decide (0<el.Block))&&(blkAt m.Disk el.Block).Dir) then nameOk el.Name else false))=_
  cases ((decide (0<el.Block))&&(blkAt m.Disk el.Block).Dir)<;>rfl
 ·rw [h5 h]
  simp only [depKind,h]; rfl
 ·rw [h1 (.inr h),wi]
  simp only [depKind,h]
  rw [ri,Bool.or_true,chk_t]
  exact (chk_of (by show (!_||inR el.Ptr (inoAt m.Disk el.Ino).Ptrs.length)=true; rw [rp,Bool.or_true])).trans rfl
theorem l08Dep_eq {n:Nat} (hn:FUEL<=n) (m:Mem) (hm:SzMem m) (hd:DiskR m.Disk) (hnx:1<=m.Next/\m.Next<=100000) (i:Nat) (hi:i<m.Deps.length) (k:Bool->Option R):s_l08Dep n m (i:Int) k=k (depOk m i):=by
 have hdl:m.Deps.length<=2097152:=hm.dp
 have hel:=hm.dep _ (getD_mem dDep hi)
 have hbl:(m.Deps.getD i dDep).Blocks.length<=2097152:=hel.2
 simp only [s_l08Dep,In_eq,inR_nat,hi,decide_true,chk_t,Int.toNat_natCast,depOk,depNums]
 rw [w64_pred (by omega) (by omega)]
 obtain ⟨el,he⟩:∃ el,m.Deps.getD i dDep=el:=⟨_,rfl⟩
 simp only [he] at hel hbl ⊢
 cases h1:within el.Id 1 (m.Next-1); · rfl
 cases h2:within el.Kind 1 6; · rfl
 cases h3:within el.Ino 1 8; · rfl
 cases h4:within el.Ptr 0 1; · rfl
 cases h5:within el.Block 0 16; · rfl
 cases h6:within el.Slot 0 3; · rfl
 cases h7:within el.After 0 (m.Next-1); · rfl
 simp only [Bool.not_true,Bool.not_false,cond_true,cond_false,Bool.or_false,Bool.true_and]
 rw [within_iff] at h2 h3 h4 h5 h6
 have tail:=l08Dep_tail (R:=R) hn m hd el hel.1 h2 h3 h4 h5 h6
 generalize hQ:(bif (el.Kind==1) then _ else _:Option R)=Q
 have hq:Q=k (depKind m el):=by
  refine tail (fun _=>Q) k ?_ ?_ ?_ ?_
  ·rintro (h | h)<;>(rw [← hQ]; simp only [h]; rfl)
  ·rintro (h | h)<;>(rw [← hQ]; simp only [h]; rfl)
  ·intro h; rw [← hQ]; simp only [h]; rfl
  ·intro h; rw [← hQ]; simp only [h]; rfl
 have l2:=loop_all (R:=R) (L:=s_l08Dep_l10 (i:Int) el.Id m.Deps (fun x=>k x) Q) (len:=i) (B:=0) (p:=fun j=> !((m.Deps.getD j dDep).Id==el.Id)) (e:=k false) (q:=Q) (by omega)
  (fun m' j _ hj=>by
   simp only [s_l08Dep_l10,lt_nat,inR_nat,hj,decide_true,cond_true,Int.toNat_natCast]
   rw [show decide (j<m.Deps.length)=true by simp; omega,chk_t]
   cases (m.Deps.getD j dDep).Id==el.Id<;>rfl) (fun m'=>by simp [s_l08Dep_l10]) i n 0 (by omega) (fuel_lt hn (by omega))
 have l1:=loop_list (R:=R) (L:=s_l08Dep_l5 el.Blocks (fun x=>k x) (s_l08Dep_l10 (i:Int) el.Id m.Deps (fun x=>k x) Q n 0)) (l:=el.Blocks) 0 (B:=0) (P:=fun p=>within p 1 16) (e:=k false) (q:=s_l08Dep_l10 (i:Int) el.Id m.Deps (fun x=>k x) Q n 0) (by omega)
  (fun m' j _ hj=>by
   simp only [s_l08Dep_l5,In_eq,lt_nat,inR_nat,hj,decide_true,cond_true,chk_t,Int.toNat_natCast]
   cases within (el.Blocks.getD j 0) 1 16<;>rfl) (fun m'=>by simp [s_l08Dep_l5]) (n:=n) (fuel_lt hn (by omega))
 refine l1.trans ?_
 have l2':s_l08Dep_l10 (i:Int) el.Id m.Deps (fun x=>k x) Q n 0=_:=l2
 rw [l2',hq]
 cases List.all el.Blocks _<;>cases List.all (List.range' 0 i) _<;>rfl
theorem MemOk_eq {n:Nat} (hn:FUEL<=n) (m:Mem) (hm:SzMem m) (k:Bool->Option R):s_MemOk n m k=k (memOk m):=by
 have hdl:m.Deps.length<=2097152:=hm.dp
 simp only [s_MemOk,In_eq,memOk]
 rw [DiskOk_eq hn _ hm.d,show (21:Int)=((21:Nat):Int) from rfl,int_beq,show decide ((40:Int)<(m.Deps.length:Int))= !decide (m.Deps.length<=40) by by_cases h:m.Deps.length<=40<;>simp [h]<;>omega]
 cases h1:diskOk m.Disk; · rfl
 cases h2:m.Dirty.length==21; · rfl
 cases h3:decide (m.Deps.length<=40); · rfl
 cases h4:within m.Next 1 100000; · rfl
 simp only [Bool.not_true,Bool.not_false,cond_true,cond_false,Bool.or_false,Bool.true_and]
 rw [within_iff] at h4
 have hd:=diskOk_iff.1 h1
 have:=loop_all (R:=R) (L:=s_MemOk_l4 n m.Next m.Disk.Bits.Blocks m.Disk.Bits.Inos m.Disk.Inodes m.Disk.Blocks m.Dirty m.Deps (fun x=>k x) (k true)) (len:=m.Deps.length) (B:=0) (p:=depOk m) (e:=k false) (q:=k true) (by omega)
  (fun m' j _ hj=>by
   simp only [s_MemOk_l4,lt_nat,hj,decide_true,cond_true]
   rw [l08Dep_eq hn m hm hd h4 j hj]
   cases depOk m j<;>rfl) (fun m'=>by simp [s_MemOk_l4]) m.Deps.length n 0 (by omega) (fuel_lt hn (by omega))
 refine this.trans ?_
 cases List.all _ (depOk m)<;>rfl
theorem getD_get {α:Type} (l:List α) (d:α) {i:Nat} (h:i<l.length):l.getD i d=l[i]:=by simp [List.getD_eq_getElem?_getD,h]
def segs:List UInt8->List UInt8->List ByteArray
 | cur,[]=>[mkS cur]
 | cur,c::l=>bif c==47 then mkS cur::segs [] l else segs (cur++[c]) l
def splitPath (p:ByteArray):List ByteArray×Bool:=match p.data.toList with
 | []=>([],false)
 | c::l=>bif c==47 then (match l with
  | []=>([],true)
  | l=>bif (segs [] l).all nameOk&&decide ((segs [] l).length<=4) then (segs [] l,true) else ([],false)) else ([],false)
theorem extract_eq (p:ByteArray) (b i:Nat) (h:b<=i):p.extract b i=mkS ((p.data.toList.drop b).take (i-b)):=by
 apply ByteArray.ext
 apply Array.ext'
 simp only [ByteArray.data_extract,mkS,Array.toList_extract,List.extract_eq_take_drop]
theorem split_loop {n:Nat} (hn:FUEL<=n) (p:ByteArray) (hp:p.size<=LEN) (q0:Bool->List ByteArray->Option R) (q1:List ByteArray->Option R):∀ (rest cur:List UInt8) (b i m:Nat) (out:List ByteArray),p.data.toList.drop i=rest->cur=(p.data.toList.drop b).take (i-b)->b<=i->i<=p.size ->
  rest.length+1<m->out.length<=i->s_SplitPath_l8 n p q0 q1 m (b:Int) (i:Int) out=bif (segs cur rest).all nameOk then q1 (out++segs cur rest) else q0 false []
 | [],cur,b,i,m,out,h1,h2,h3,h4,h5,h6=>by
  have hp':p.size<=2097152:=hp
  have hi:i=p.size:=by
   have:=congrArg List.length h1; rw [List.length_drop] at this
   have:p.data.toList.length=p.size:=rfl
   simp at *; omega
  match m,h5 with
  | m+2,_ =>
   simp only [s_SplitPath_l8,lt_nat,segs,List.all_cons,List.all_nil,Bool.and_true]
   rw [show decide ((i:Int)<=(p.size:Int))=true by simp; omega,bif_t,show decide (i<p.size)=false by simp; omega]
   simp only [Bool.not_false,Bool.true_or,chk_t,Bool.false_and,cond_false,Int.toNat_natCast]
   rw [extract_eq p b i h3,← h2,chk_of (by simp only [cutOk,Bool.and_eq_true,decide_eq_true_eq]; omega),NameOk_eq hn _ (by
    have:cur.length<=i-b:=by rw [h2,List.length_take]; omega
    show cur.length<=2097152; omega)]
   cases nameOk (mkS cur) with
   | false=>rfl
   | true =>
    simp only [Bool.not_true,cond_false,cond_true]
    rw [chk_of (by simp only [cutOk,Bool.and_eq_true,decide_eq_true_eq]; omega),chk_of (lenOk_app h6 (by omega) (by simp)),w64_suc (by omega),show decide (((i+1:Nat):Int)<=(p.size:Int))=false by simp; omega]
    rfl
 | c::rest,cur,b,i,m,out,h1,h2,h3,h4,h5,h6=>by
  have hp':p.size<=2097152:=hp
  have hsz:p.data.toList.length=p.size:=rfl
  have hi:i<p.data.toList.length:=by
   have:=congrArg List.length h1; rw [List.length_drop] at this; simp at this ⊢; omega
  have hc:p.data.toList.getD i 0=c:=by
   have:=drop_getD (0:UInt8) hi; rw [h1] at this; injection this with h _; exact h.symm
  have hr:p.data.toList.drop (i+1)=rest:=by
   have:=drop_getD (0:UInt8) hi; rw [h1] at this; injection this with _ h; exact h.symm
  have hcur:cur++[c]=(p.data.toList.drop b).take (i+1-b):=by
   rw [show i+1-b=(i-b)+1 by omega,List.take_add_one,← h2]
   congr 1
   rw [List.getElem?_drop,show b+(i-b)=i by omega,List.getElem?_eq_getElem hi]
   have:p.data.toList[i]=c:=by rw [← hc]; exact (getD_get _ 0 hi).symm
   rw [this]; rfl
  match m,h5 with
  | m+1,h5 =>
   have hi':i<p.size:=by omega
   simp only [s_SplitPath_l8,lt_nat,inR_nat,segs]
   rw [show decide ((i:Int)<=(p.size:Int))=true by simp; omega,bif_t,decide_eq_true hi']
   simp only [Bool.or_true,chk_t,Bool.true_and,Int.toNat_natCast,bt_eq,hc]
   have hc47:(((c.toNat:Nat):Int)==47)=(c==47):=by
    rw [show (47:Int)=((47:Nat):Int) from rfl,int_beq]
    cases h:c==47 with
    | true=>rw [beq_iff_eq] at h; subst h; rfl
    | false =>
     rw [beq_eq_false_iff_ne] at h ⊢
     intro h2; apply h; exact UInt8.toNat_inj.1 h2
   rw [hc47]
   cases h47:c==47 with
   | false =>
    simp only [Bool.not_false,cond_true,cond_false]
    rw [w64_suc (by omega)]
    exact split_loop hn p hp q0 q1 rest (cur++[c]) b (i+1) m out hr hcur (by omega) (by omega) (by simp at h5; omega) (by omega)
   | true =>
    simp only [Bool.not_true,cond_true,cond_false]
    rw [extract_eq p b i h3,← h2,chk_of (by simp only [cutOk,Bool.and_eq_true,decide_eq_true_eq]; omega),NameOk_eq hn _ (by
     have:cur.length<=i-b:=by rw [h2,List.length_take]; omega
     show cur.length<=2097152; omega)]
    rw [List.all_cons]
    cases nameOk (mkS cur) with
    | false=>rfl
    | true =>
     simp only [Bool.not_true,cond_false,Bool.true_and]
     rw [chk_of (by simp only [cutOk,Bool.and_eq_true,decide_eq_true_eq]; omega),chk_of (lenOk_app h6 (by omega) (by simp)),w64_suc (by omega),
      split_loop hn p hp q0 q1 rest [] (i+1) (i+1) m _ hr (by simp) (by omega) (by omega) (by simp at h5; omega) (by rw [List.length_append,List.length_singleton]; omega),List.append_assoc]
     rfl
theorem ba_eq_iff {a:ByteArray} {l:List UInt8}:a=mkS l↔a.data.toList=l:=by
 constructor
 ·rintro rfl; rfl
 ·intro h; apply ByteArray.ext; apply Array.ext'; exact h
theorem SplitPath_eq {n:Nat} (hn:FUEL<=n) (p:ByteArray) (hp:p.size<=LEN) (k:List ByteArray->Bool->Option R):s_SplitPath n p k=k (splitPath p).1 (splitPath p).2:=by
 have hp':p.size<=2097152:=hp
 simp only [s_SplitPath,splitPath]
 have hsz:p.data.toList.length=p.size:=rfl
 cases hl:p.data.toList with
 | nil =>
  have:p.size=0:=by rw [← hsz,hl]; rfl
  rw [this]; rfl
 | cons c l =>
  have h0:p.size=l.length+1:=by rw [← hsz,hl]; rfl
  have hz:((p.size:Int)==0)=false:=by rw [h0]; simp; omega
  have hb:bt p 0=c.toNat:=by rw [bt_eq,hl]; rfl
  have hc47:(((c.toNat:Nat):Int)==47)=(c==47):=by
   rw [show (47:Int)=((47:Nat):Int) from rfl,int_beq]
   cases h:c==47 with
   | true=>rw [beq_iff_eq] at h; subst h; rfl
   | false =>
    rw [beq_eq_false_iff_ne] at h ⊢
    intro h2; apply h; exact UInt8.toNat_inj.1 h2
  rw [hz,hb,hc47,show inR (0:Int) p.size=true by simp [inR]; omega]
  simp only [Bool.or_true,chk_t,Bool.false_or]
  cases h47:c==47 with
  | false=>rfl
  | true =>
   simp only [Bool.not_true,cond_false,cond_true]
   rw [beq_iff_eq] at h47; subst h47
   cases l with
   | nil =>
    have:(p==S [47])=true:=by rw [beq_iff_eq]; exact ba_eq_iff.2 hl
    rw [this]; rfl
   | cons d l =>
    have:(p==S [47])=false:=by
     rw [beq_eq_false_iff_ne]; intro h
     have h2:p.data.toList=[47]:=ba_eq_iff.1 h
     rw [hl] at h2; injection h2 with _ h2; cases h2
    rw [this]
    have:=split_loop (R:=R) hn p hp (fun x x_1=>k x_1 x) (fun out=>bif (decide (4<(out.length:Int))) then k ([]) false else k out true) (d::l) [] 1 1 n [] (by rw [hl]; rfl) (by simp) (by omega) (by omega) (fuel_lt hn (by simp only [List.length_cons] at h0 ⊢; omega)) (by simp)
    simp only [cond_false]
    refine this.trans ?_
    rw [List.nil_append]
    cases h1:(segs [] (d::l)).all nameOk with
    | false=>rfl
    | true =>
     rw [show decide ((4:Int)<((segs [] (d::l)).length:Int))= !decide ((segs [] (d::l)).length<=4) by by_cases h:(segs [] (d::l)).length<=4<;>simp [h]<;>omega]
     cases decide ((segs [] (d::l)).length<=4)<;>rfl
def joinPath (l:List ByteArray):ByteArray:=l.foldl (fun s x=>(s++S [47])++x) eS
def splitDir (p:ByteArray):ByteArray×ByteArray×Bool:=bif !(splitPath p).2||(splitPath p).1.length==0 then (eS,eS,false) else
 (bif joinPath (splitPath p).1.dropLast==eS then S [47] else joinPath (splitPath p).1.dropLast,(splitPath p).1.getD ((splitPath p).1.length-1) eS,true)
theorem splitPath_cases (p:ByteArray):(splitPath p=([],false))\/(splitPath p=([],true))\/((splitPath p).2=true/\(splitPath p).1.all nameOk=true/\(splitPath p).1.length<=4):=by
 simp only [splitPath]
 cases p.data.toList with
 | nil=>exact .inl rfl
 | cons c l =>
  dsimp only
  generalize (c==47)=z
  cases z with
  | false=>exact .inl rfl
  | true =>
   cases l with
   | nil=>exact .inr (.inl rfl)
   | cons d l =>
    dsimp only
    generalize segs [] (d::l)=ss
    cases h1:ss.all nameOk&&decide (ss.length<=4) with
    | false=>exact .inl rfl
    | true =>
     simp only [Bool.and_eq_true,decide_eq_true_eq] at h1
     exact .inr (.inr ⟨rfl,h1.1,h1.2⟩)
theorem splitPath_names {p:ByteArray} (h:(splitPath p).2=true):(splitPath p).1.all nameOk=true/\(splitPath p).1.length<=4:=by
 rcases splitPath_cases p with h1 | h1 | h1
 ·rw [h1] at h; cases h
 ·rw [h1]; exact ⟨rfl,by simp⟩
 ·exact h1.2
theorem joinPath_size:∀ (l:List ByteArray) (a:ByteArray),(∀ x∈l,x.size<=6)->(l.foldl (fun s x=>(s++S [47])++x) a).size<=a.size+7*l.length
 | [],a,_=>by simp
 | x::l,a,h=>by
  have h1:=h x List.mem_cons_self
  have h2:=joinPath_size l ((a++S [47])++x) fun y hy=>h y (List.mem_cons_of_mem _ hy)
  have h3:(S [47]).size=1:=rfl
  rw [List.foldl_cons,List.length_cons]
  rw [ByteArray.size_append,ByteArray.size_append,h3] at h2
  omega
theorem l12Split_eq {n:Nat} (hn:FUEL<=n) (p:ByteArray) (hp:p.size<=LEN) (k:ByteArray->ByteArray->Bool->Option R):s_l12Split n p k=k (splitDir p).1 (splitDir p).2.1 (splitDir p).2.2:=by
 simp only [s_l12Split,splitDir]
 rw [SplitPath_eq hn p hp]
 cases h2:(splitPath p).2 with
 | false=>rfl
 | true =>
  obtain ⟨hnm,hlen⟩:=splitPath_names h2
  generalize (splitPath p).1=l at *
  rw [show (0:Int)=((0:Nat):Int) from rfl,int_beq]
  cases hl:l.length==0 with
  | true=>rfl
  | false =>
   have hl0:l.length≠0:=by simpa using hl
   have hsz:∀ x∈l,x.size<=6:=fun x hx=>(nameOk_size (List.all_eq_true.1 hnm x hx)).2
   simp only [Bool.not_true,Bool.false_or,cond_false]
   have hS:(S [47]).size=1:=rfl
   have loop:∀ (j m i:Nat) (a:ByteArray) (q:ByteArray->Option R),i+j+1=l.length->j<m->a.size<=7*i->s_l12Split_l6 l q m a (i:Int)=q ((l.dropLast.drop i).foldl (fun s x=>(s++S [47])++x) a):=by
    intro j
    induction j with
    | zero =>
     intro m i a q h1 h2 h3
     cases m with
     | zero=>omega
     | succ m =>
      simp only [s_l12Split_l6]
      rw [w64_suc (by omega),lt_nat,show decide (i+1<l.length)=false by simp; omega,List.drop_of_length_le (by simp; omega)]
      rfl
    | succ j ih =>
     intro m i a q h1 h2 h3
     cases m with
     | zero=>omega
     | succ m =>
      have hi:i<l.length:=by omega
      have hx:=hsz _ (getD_mem eS hi)
      have hdl:i<l.dropLast.length:=by simp; omega
      simp only [s_l12Split_l6,inR_nat,Int.toNat_natCast]
      rw [w64_suc (by omega),lt_nat,show decide (i+1<l.length)=true by simp; omega,decide_eq_true hi,bif_t,chk_t,chk_of (sizeOk_of (by omega)),chk_of (sizeOk_of (by rw [ByteArray.size_append]; omega)),
       ih m (i+1) _ q (by omega) (by omega) (by rw [ByteArray.size_append,ByteArray.size_append]; omega),drop_getD eS hdl,List.foldl_cons]
      congr 3
      rw [getD_get _ _ hi,getD_get _ _ hdl,List.getElem_dropLast]
   have:=loop (l.length-1) n 0 eS (fun s=>bif s==eS then chk (inR (w64 ((l.length:Int)-1)) l.length) (k (S [47]) (l.getD ((w64 ((l.length:Int)-1)).toNat) eS) true) else chk (inR (w64 ((l.length:Int)-1)) l.length) (k s (l.getD ((w64 ((l.length:Int)-1)).toNat) eS) true)) (by omega) (fuel_lt hn (by omega)) (by decide)
   refine this.trans ?_
   rw [List.drop_zero,w64_pred (by omega) (by omega),chk_of (inR_pred (by omega) (by omega)),chk_of (inR_pred (by omega) (by omega)),show ((l.length:Int)-1).toNat=l.length-1 by omega]
   show (bif joinPath l.dropLast==eS then _ else _)=_
   cases joinPath l.dropLast==eS<;>rfl
def findIn (d:Disk) (name:ByteArray):List Int->Int×Int×Int
 | []=>(0,0,0)
 | p::l=>bif ((block? d p).2&&(block? d p).1.Dir)&&decide (0<=slotOf (block? d p).1 name) then (p,slotOf (block? d p).1 name,((block? d p).1.Slots.getD (slotOf (block? d p).1 name).toNat dSlot).Ino) else findIn d name l
def find (d:Disk) (i:Int) (name:ByteArray):Int×Int×Int:=bif within i 1 d.Inodes.length&&(inoAt d i).Kind==2 then findIn d name (inoAt d i).Ptrs else (0,0,0)
theorem slotOf_lt {b:Block} {name:ByteArray} (h:0<=slotOf b name):(slotOf b name).toNat<b.Slots.length:=by
 revert h; simp only [slotOf]
 cases name==eS with
 | true=>intro h; simp at h
 | false =>
  simp only [cond_false]
  rcases placeIn_ge (fun s:Slot=>s.Name==name) b.Slots with h | ⟨j,h,hj⟩<;>rw [h]<;>intro h2
  ·omega
  ·omega
theorem block?_sz {d:Disk} (hd:SzDisk d) (p:Int):(block? d p).1.Slots.length<=LEN:=by
 simp only [block?]
 cases h:within p 1 d.Blocks.length with
 | false=>exact Nat.zero_le _
 | true =>
  rw [within_iff] at h
  exact (hd.blk _ (getD_mem dBlock (by omega))).1
theorem l11Find_eq {n:Nat} (hn:FUEL<=n) (d:Disk) (hd:SzDisk d) (i:Int) (name:ByteArray) (k:Int->Int->Int->Option R):s_l11Find n d i name k=k (find d i name).1 (find d i name).2.1 (find d i name).2.2:=by
 have hdi:d.Inodes.length<=2097152:=hd.di
 simp only [s_l11Find,In_eq,find]
 cases hw:within i 1 d.Inodes.length with
 | false=>rfl
 | true =>
  rw [within_iff] at hw
  rw [w64_pred (by omega) (by omega),inR_pred hw.1 hw.2]
  simp only [Bool.or_true,chk_t,Bool.not_true,Bool.false_or,Bool.true_and]
  show (bif !((inoAt d i).Kind==2) then _ else _)=_
  cases hk:(inoAt d i).Kind==2 with
  | false=>rfl
  | true =>
   have hpl:(inoAt d i).Ptrs.length<=2097152:=hd.ino _ (getD_mem dInode (by omega))
   simp only [Bool.not_true,cond_false,cond_true]
   have loop:∀ (ps:List Int) (j m:Nat),ps=(inoAt d i).Ptrs.drop j->j<=(inoAt d i).Ptrs.length->ps.length<m->s_l11Find_l5 n name d.Bits.Blocks d.Bits.Inos d.Inodes d.Blocks (inoAt d i).Ptrs (fun x x_1 x_2=>k x x_1 x_2) (k 0 0 0) m (j:Int)=k (findIn d name ps).1 (findIn d name ps).2.1 (findIn d name ps).2.2:=by
    intro ps
    induction ps with
    | nil =>
     intro j m h1 h2 h3
     have:j=(inoAt d i).Ptrs.length:=by have:=congrArg List.length h1; simp at this; omega
     cases m with
     | zero=>simp at h3
     | succ m=>simp [s_l11Find_l5,findIn,this]
    | cons p ps ih =>
     intro j m h1 h2 h3
     have hj:j<(inoAt d i).Ptrs.length:=by have:=congrArg List.length h1; simp at this; omega
     have hpj:=drop_getD (0:Int) hj
     rw [← h1] at hpj; injection hpj with hp1 hp2
     cases m with
     | zero=>simp at h3
     | succ m =>
      simp only [s_l11Find_l5,lt_nat,inR_nat,hj,decide_true,cond_true,chk_t,Int.toNat_natCast,← hp1]
      rw [show (⟨⟨d.Bits.Blocks,d.Bits.Inos⟩,d.Inodes,d.Blocks⟩:Disk)=d from rfl,l11Block_eq d hd.db,SlotOf_eq hn _ (block?_sz hd p)]
      simp only [findIn]
      cases hc:((block? d p).2&&(block? d p).1.Dir)&&decide (0<=slotOf (block? d p).1 name) with
      | false =>
       simp only [cond_false]
       rw [w64_suc (by omega)]
       exact ih (j+1) m hp2 (by omega) (by simp at h3; omega)
      | true =>
       simp only [Bool.and_eq_true,decide_eq_true_eq] at hc
       have:=slotOf_lt hc.2
       simp only [cond_true]
       rw [chk_of (by simp only [inR,Bool.and_eq_true,decide_eq_true_eq]; omega)]
   exact loop _ 0 n (by simp) (by omega) (fuel_lt hn (by omega))
def walkFrom (d:Disk):Int->List ByteArray->Int
 | i,[]=>i
 | i,x::l=>bif within (find d i x).2.2 1 d.Inodes.length then walkFrom d (find d i x).2.2 l else 0
def walkPath (d:Disk) (p:ByteArray):Int:=bif (splitPath p).2 then walkFrom d 1 (splitPath p).1 else 0
theorem WalkPath_eq {n:Nat} (hn:FUEL<=n) (d:Disk) (hd:SzDisk d) (p:ByteArray) (hp:p.size<=LEN) (k:Int->Option R):s_WalkPath n d p k=k (walkPath d p):=by
 simp only [s_WalkPath,walkPath]
 rw [SplitPath_eq hn p hp]
 cases h2:(splitPath p).2 with
 | false=>rfl
 | true =>
  obtain ⟨hnm,hlen⟩:=splitPath_names h2
  generalize (splitPath p).1=l at *
  simp only [Bool.not_true,cond_false,cond_true]
  have loop:∀ (ps:List ByteArray) (j m:Nat) (i:Int),ps=l.drop j->j<=l.length->ps.length<m->s_WalkPath_l6 n l d.Bits.Blocks d.Bits.Inos d.Inodes d.Blocks (fun x=>k x) (fun i=>k i) m i (j:Int)=k (walkFrom d i ps):=by
   intro ps
   induction ps with
   | nil =>
    intro j m i h1 h2 h3
    have:j=l.length:=by have:=congrArg List.length h1; simp at this; omega
    cases m with
    | zero=>simp at h3
    | succ m=>simp [s_WalkPath_l6,walkFrom,this]
   | cons p ps ih =>
    intro j m i h1 h2 h3
    have hj:j<l.length:=by have:=congrArg List.length h1; simp at this; omega
    have hpj:=drop_getD eS hj
    rw [← h1] at hpj; injection hpj with hp1 hp2
    cases m with
    | zero=>simp at h3
    | succ m =>
     simp only [s_WalkPath_l6,In_eq,lt_nat,inR_nat,hj,decide_true,cond_true,chk_t,Int.toNat_natCast,← hp1]
     rw [show (⟨⟨d.Bits.Blocks,d.Bits.Inos⟩,d.Inodes,d.Blocks⟩:Disk)=d from rfl,l11Find_eq hn d hd]
     simp only [walkFrom]
     cases hc:within (find d i p).2.2 1 d.Inodes.length with
     | false=>rfl
     | true =>
      simp only [Bool.not_true,cond_false,cond_true]
      rw [w64_suc (by omega)]
      exact ih (j+1) m _ hp2 (by omega) (by simp at h3; omega)
  exact loop _ 0 n 1 (by simp) (by omega) (fuel_lt hn (by omega))
def waits (m:Mem) (dir:Int) (name:ByteArray):Bool:=m.Deps.any fun d=>(((d.Kind==4)&&decide (0<d.After))&&(d.Name==name))&&has (inoAt m.Disk dir).Ptrs d.Block
theorem l12Waits_eq {n:Nat} (hn:FUEL<=n) (m:Mem) (hm:m.Deps.length<=LEN) (hd:m.Disk.Inodes.length<=LEN) (dir:Int) (h1:1<=dir) (h2:dir<=m.Disk.Inodes.length) (hp:(inoAt m.Disk dir).Ptrs.length<=LEN) (name:ByteArray) (k:Bool->Option R) :
  s_l12Waits n m dir name k=k (waits m dir name):=by
 have hm':m.Deps.length<=2097152:=hm
 have hd':m.Disk.Inodes.length<=2097152:=hd
 have:=loop_list (R:=R) (L:=s_l12Waits_l2 n dir name m.Disk.Inodes m.Deps (fun x=>k x) (k false)) (l:=m.Deps) dDep (B:=0) (P:=fun d=> !((((d.Kind==4)&&decide (0<d.After))&&(d.Name==name))&&has (inoAt m.Disk dir).Ptrs d.Block)) (e:=k true) (q:=k false) (by omega)
  (fun m' i _ hi=>by
   simp only [s_l12Waits_l2,lt_nat,inR_nat,hi,decide_true,chk_t,cond_true,Int.toNat_natCast]
   rw [w64_pred (by omega) (by omega),inR_pred h1 h2,Bool.or_true,chk_t]
   refine (l10Has_eq hn (inoAt m.Disk dir).Ptrs hp _ _).trans ?_
   generalize ((((m.Deps.getD i dDep).Kind==4)&&decide (0<(m.Deps.getD i dDep).After))&&((m.Deps.getD i dDep).Name==name))=c
   generalize has (inoAt m.Disk dir).Ptrs (m.Deps.getD i dDep).Block=x
   cases c<;>cases x<;>rfl) (fun m'=>by simp [s_l12Waits_l2]) (n:=n) (fuel_lt hn (by omega))
 refine this.trans ?_
 rw [not_all (fun d:Dep=>(((d.Kind==4)&&decide (0<d.After))&&(d.Name==name))&&has (inoAt m.Disk dir).Ptrs d.Block),waits]
 cases m.Deps.any _<;>rfl
def held (m:Mem) (i:Int):Bool:=m.Deps.any fun d=>((d.Kind==4)&&decide (0<d.After))&&has (inoAt m.Disk i).Ptrs d.Block
theorem l12Held_eq {n:Nat} (hn:FUEL<=n) (m:Mem) (hm:m.Deps.length<=LEN) (hd:m.Disk.Inodes.length<=LEN) (dir:Int) (h1:1<=dir) (h2:dir<=m.Disk.Inodes.length) (hp:(inoAt m.Disk dir).Ptrs.length<=LEN) (k:Bool->Option R) :
  s_l12Held n m dir k=k (held m dir):=by
 have hm':m.Deps.length<=2097152:=hm
 have hd':m.Disk.Inodes.length<=2097152:=hd
 have:=loop_list (R:=R) (L:=s_l12Held_l2 n dir m.Disk.Inodes m.Deps (fun x=>k x) (k false)) (l:=m.Deps) dDep (B:=0) (P:=fun d=> !(((d.Kind==4)&&decide (0<d.After))&&has (inoAt m.Disk dir).Ptrs d.Block)) (e:=k true) (q:=k false) (by omega)
  (fun m' i _ hi=>by
   simp only [s_l12Held_l2,lt_nat,inR_nat,hi,decide_true,chk_t,cond_true,Int.toNat_natCast]
   rw [w64_pred (by omega) (by omega),inR_pred h1 h2,Bool.or_true,chk_t]
   refine (l10Has_eq hn (inoAt m.Disk dir).Ptrs hp _ _).trans ?_
   generalize (((m.Deps.getD i dDep).Kind==4)&&decide (0<(m.Deps.getD i dDep).After))=c
   generalize has (inoAt m.Disk dir).Ptrs (m.Deps.getD i dDep).Block=x
   cases c<;>cases x<;>rfl) (fun m'=>by simp [s_l12Held_l2]) (n:=n) (fuel_lt hn (by omega))
 refine this.trans ?_
 rw [not_all (fun d:Dep=>((d.Kind==4)&&decide (0<d.After))&&has (inoAt m.Disk dir).Ptrs d.Block),held]
 cases m.Deps.any _<;>rfl
def namesIn (b:Block):List ByteArray:=bif b.Dir then (b.Slots.filter fun s=> !(s.Name==eS)).map (·.Name) else []
def namesOf (d:Disk) (i:Int):List ByteArray:=bif within i 1 d.Inodes.length&&(inoAt d i).Kind==2 then (inoAt d i).Ptrs.flatMap fun p=>namesIn (block? d p).1 else []
theorem namesIn_len (b:Block):(namesIn b).length<=b.Slots.length:=by
 simp only [namesIn]
 cases b.Dir with
 | false=>simp
 | true=>simp only [cond_true,List.length_map]; exact List.length_filter_le _ _
theorem NamesOf_inner (b:Block) (hb:b.Slots.length<=2097152) (q:List ByteArray->Option R) (m:Nat) (hm:b.Slots.length<m) (acc:List ByteArray) (ha:acc.length<=1000000000):s_NamesOf_l10 b.Dir b.Slots q m 0 acc=q (acc++namesIn b):=by
 cases hd:b.Dir with
 | false =>
  cases m with
  | zero=>omega
  | succ m=>simp [s_NamesOf_l10,namesIn,hd]
 | true =>
  have loop:∀ (ss:List Slot) (j m:Nat) (acc:List ByteArray),ss=b.Slots.drop j->j<=b.Slots.length->ss.length<m->acc.length<=1000000000+j->s_NamesOf_l10 true b.Slots q m (j:Int) acc=q (acc++(ss.filter fun s=> !(s.Name==eS)).map (·.Name)):=by
   intro ss
   induction ss with
   | nil =>
    intro j m acc h1 h2 h3 h4
    have:j=b.Slots.length:=by have:=congrArg List.length h1; simp at this; omega
    cases m with
    | zero=>simp at h3
    | succ m=>simp [s_NamesOf_l10,this]
   | cons s ss ih =>
    intro j m acc h1 h2 h3 h4
    have hj:j<b.Slots.length:=by have:=congrArg List.length h1; simp at this; omega
    have hpj:=drop_getD dSlot hj
    rw [← h1] at hpj; injection hpj with hp1 hp2
    cases m with
    | zero=>simp at h3
    | succ m =>
     simp only [s_NamesOf_l10,lt_nat,inR_nat,hj,decide_true,cond_true,chk_t,Int.toNat_natCast,← hp1,Bool.true_and,List.filter_cons]
     rw [w64_suc (by omega)]
     cases hs:s.Name==eS with
     | true =>
      simp only [Bool.not_true,cond_false]
      rw [ih (j+1) m acc hp2 (by omega) (by simp at h3; omega) (by omega)]
      rfl
     | false =>
      simp only [Bool.not_false,cond_true]
      rw [chk_of (lenOk_of (by rw [List.length_append,List.length_singleton]; omega)),ih (j+1) m _ hp2 (by omega) (by simp at h3; omega) (by rw [List.length_append,List.length_singleton]; omega),List.append_assoc]
      rfl
  have:=loop b.Slots 0 m acc (by simp) (by omega) hm (by omega)
  simp only [namesIn,hd,cond_true]
  exact this
theorem NamesOf_eq {n:Nat} (hn:FUEL<=n) (d:Disk) (hd:SzDisk d) (i:Int) (hp:∀ x∈d.Inodes,x.Ptrs.length<=2) (hb:∀ b∈d.Blocks,b.Slots.length<=4) (k:List ByteArray->Option R):s_NamesOf n d i k=k (namesOf d i):=by
 have hdi:d.Inodes.length<=2097152:=hd.di
 simp only [s_NamesOf,In_eq,namesOf]
 cases hw:within i 1 d.Inodes.length with
 | false=>rfl
 | true =>
  rw [within_iff] at hw
  rw [w64_pred (by omega) (by omega),inR_pred hw.1 hw.2]
  simp only [Bool.or_true,chk_t,Bool.not_true,Bool.false_or,Bool.true_and]
  show (bif !((inoAt d i).Kind==2) then _ else _)=_
  cases hk:(inoAt d i).Kind==2 with
  | false=>rfl
  | true =>
   have hpl:(inoAt d i).Ptrs.length<=2:=hp _ (getD_mem dInode (by omega))
   have hbs:∀ p,(block? d p).1.Slots.length<=4:=by
    intro p
    simp only [block?]
    cases h:within p 1 d.Blocks.length with
    | false=>exact Nat.zero_le _
    | true=>rw [within_iff] at h; exact hb _ (getD_mem dBlock (by omega))
   simp only [Bool.not_true,cond_false,cond_true]
   have:=loop_flat (R:=R) (L:=s_NamesOf_l6 d.Bits.Blocks d.Bits.Inos d.Inodes d.Blocks (inoAt d i).Ptrs (fun out=>k out)) (l:=(inoAt d i).Ptrs) 0 (f:=fun p=>namesIn (block? d p).1) (B:=100) (C:=4) (q:=fun out=>k out) (by omega)
    (fun p _=>Nat.le_trans (namesIn_len _) (hbs p))
    (fun m j acc hm hj ha=>by
     simp only [s_NamesOf_l6,lt_nat,inR_nat,hj,decide_true,cond_true,chk_t,Int.toNat_natCast]
     rw [show (⟨⟨d.Bits.Blocks,d.Bits.Inos⟩,d.Inodes,d.Blocks⟩:Disk)=d from rfl,l11Block_eq d hd.db]
     have h4:=hbs ((inoAt d i).Ptrs.getD j 0)
     rw [NamesOf_inner _ (by omega) _ m (by omega) acc (by omega)]) (fun m acc=>by simp [s_NamesOf_l6]) (inoAt d i).Ptrs.length n 0 [] (by omega) (fuel_lt hn (by omega)) (by simp)
   rw [List.drop_zero,List.nil_append] at this
   exact this
structure MemR (m:Mem):Prop where
 d:DiskR m.Disk
 dy:m.Dirty.length=21
 dp:m.Deps.length<=40
 n1:1<=m.Next
 n2:m.Next<=100000
 num:∀ x∈m.Deps,depNums m x=true
 bs:∀ x∈m.Deps,x.Blocks.all (fun p=>within p 1 16)=true
 knd:∀ x∈m.Deps,depKind m x=true
 ids:m.Deps.Pairwise fun a b=>¬ a.Id=b.Id
theorem pairwise_getD {α:Type} {l:List α} (d:α) {P:α->α->Prop}:l.Pairwise P↔∀ i j,j<i->i<l.length->P (l.getD j d) (l.getD i d):=by
 rw [List.pairwise_iff_getElem]
 constructor
 ·intro h i j hj hi
  rw [getD_get _ _ hi,getD_get _ _ (by omega:j<l.length)]
  exact h j i (by omega) hi hj
 ·intro h i j hi hj hij
  have:=h j i hij hj
  rwa [getD_get _ _ hi,getD_get _ _ hj] at this
theorem memOk_iff {m:Mem}:memOk m=true↔MemR m:=by
 simp only [memOk,Bool.and_eq_true,beq_iff_eq,decide_eq_true_eq,within_iff,diskOk_iff]
 constructor
 ·rintro ⟨⟨h1,h2,h3,h4,h5⟩,h6⟩
  have h7:∀ i,i<m.Deps.length->depOk m i=true:=fun i hi=>range_all h6 hi
  have h8:∀ x∈m.Deps,∃ i,i<m.Deps.length/\x=m.Deps.getD i dDep:=by
   intro x hx
   obtain ⟨i,hi,rfl⟩:=List.mem_iff_getElem.1 hx
   exact ⟨i,hi,(getD_get _ _ hi).symm⟩
  refine ⟨h1,h2,h3,h4,h5,?_,?_,?_,?_⟩
  ·intro x hx
   obtain ⟨i,hi,rfl⟩:=h8 x hx
   have:=h7 i hi
   simp only [depOk,Bool.and_eq_true] at this
   exact this.1
  ·intro x hx
   obtain ⟨i,hi,rfl⟩:=h8 x hx
   have:=h7 i hi
   simp only [depOk,Bool.and_eq_true] at this
   exact this.2.1
  ·intro x hx
   obtain ⟨i,hi,rfl⟩:=h8 x hx
   have:=h7 i hi
   simp only [depOk,Bool.and_eq_true] at this
   exact this.2.2.2
  ·rw [pairwise_getD dDep]
   intro i j hj hi
   have:=h7 i hi
   simp only [depOk,Bool.and_eq_true] at this
   have:=range_all this.2.2.1 hj
   simpa using this
 ·intro h
  refine ⟨⟨h.d,h.dy,h.dp,h.n1,h.n2⟩,?_⟩
  rw [List.all_eq_true]
  intro i hi
  rw [List.mem_range'] at hi
  obtain ⟨i',hi',e⟩:=hi
  have e':i=i':=by omega
  subst e'
  have hm:m.Deps.getD i dDep∈m.Deps:=getD_mem dDep hi'
  simp only [depOk,Bool.and_eq_true]
  refine ⟨h.num _ hm,h.bs _ hm,?_,h.knd _ hm⟩
  rw [List.all_eq_true]
  intro j hj
  rw [List.mem_range'] at hj
  obtain ⟨j',hj',e⟩:=hj
  have e':j=j':=by omega
  subst e'
  have:=(pairwise_getD dDep).1 h.ids i j hj' hi'
  simpa using this
def markD (u:Int) (y:List Bool):List Bool:=bif decide (0<=u)&&decide (u<y.length) then y.set u.toNat true else y
theorem mark_eq (u:Int) (m:Mem):mark u m={ m with Dirty:=markD u m.Dirty }:=by
 simp only [mark,markD]
 cases decide (0<=u)&&decide (u<(m.Dirty.length:Int))<;>rfl
theorem mark_mk (u:Int) (d:Disk) (y:List Bool) (p:List Dep) (x:Int):mark u ⟨d,y,p,x⟩=⟨d,markD u y,p,x⟩:=mark_eq u _
theorem markD_len (u:Int) (y:List Bool):(markD u y).length=y.length:=by
 simp only [markD]
 cases decide (0<=u)&&decide (u<(y.length:Int)) with
 | false=>rfl
 | true=>exact List.length_set
theorem MemR.markD {m:Mem} (h:MemR m) (u:Int):MemR { m with Dirty:=Soft.markD u m.Dirty } :=
 ⟨h.d,(markD_len u m.Dirty).trans h.dy,h.dp,h.n1,h.n2,h.num,h.bs,h.knd,h.ids⟩
theorem MemR.dirty {m:Mem} (h:MemR m) {y:List Bool} (hy:y.length=21):MemR { m with Dirty:=y } :=
 ⟨h.d,hy,h.dp,h.n1,h.n2,h.num,h.bs,h.knd,h.ids⟩
theorem MemR.less {m:Mem} (h:MemR m) {l:List Dep} (hl:l.Sublist m.Deps):MemR { m with Deps:=l } :=
 ⟨h.d,h.dy,Nat.le_trans hl.length_le h.dp,h.n1,h.n2,fun x hx=>h.num x (hl.subset hx),fun x hx=>h.bs x (hl.subset hx),fun x hx=>h.knd x (hl.subset hx),h.ids.sublist hl⟩
theorem MemR.drop {m:Mem} (h:MemR m) (id:Int):MemR (dropDep m id):=h.less List.filter_sublist
def aftOf (id after:Int) (d:Dep):Dep:=bif (d.Kind==4)&&(d.After==id) then { d with After:=after } else d
def aftD (id after:Int) (y:List Bool) (d:Dep):List Bool:=bif ((d.Kind==4)&&(d.After==id))&&(after==0) then markD (unitOfBlock d.Block) y else y
def shown (id after:Int) (m:Mem):Mem:=⟨m.Disk,(dropDep m id).Deps.foldl (aftD id after) m.Dirty,(dropDep m id).Deps.map (aftOf id after),m.Next⟩
theorem getD_mid {α:Type} {a:List α} {j:Nat} (d:α) (h:a.length=j) {x:α} {b:List α}:(a++x::b).getD j d=x:=by
 rw [List.getD_eq_getElem?_getD,List.getElem?_append_right (by omega),h,Nat.sub_self]; rfl
theorem set_mid {α:Type} {a:List α} {j:Nat} (y:α) (h:a.length=j) {x:α} {b:List α}:(a++x::b).set j y=a++y::b:=by
 rw [List.set_append_right _ _ (by omega),h,Nat.sub_self]; rfl
theorem shown_loop (id after:Int) (bb bi:List Bool) (di:List Inode) (db:List Block) (q:Int->List Bool->List Dep->Option R) (next:Int) (l:List Dep) (hl:l.length<=2097152) :
  ∀ (r j m:Nat) (y:List Bool),j+r=l.length->r<m ->
   s_l10Shown_l2 id after bb bi di db q m (j:Int) next y ((l.take j).map (aftOf id after)++l.drop j)=q next ((l.drop j).foldl (aftD id after) y) (l.map (aftOf id after)):=by
 intro r
 induction r with
 | zero =>
  intro j m y hj hm
  cases m with
  | zero=>omega
  | succ m =>
   have:j=l.length:=by omega
   subst this
   simp [s_l10Shown_l2]
 | succ r ih =>
  intro j m y hj hm
  cases m with
  | zero=>omega
  | succ m =>
   have hlt:j<l.length:=by omega
   have hal:((l.take j).map (aftOf id after)).length=j:=by simp; omega
   have htake:(l.take (j+1)).map (aftOf id after)=(l.take j).map (aftOf id after)++[aftOf id after (l.getD j dDep)]:=by
    rw [List.take_succ_eq_append_getElem hlt,List.map_append,List.map_singleton,getD_get _ _ hlt]
   have hnext:=ih (j+1) m
   rw [htake,List.append_assoc,List.singleton_append] at hnext
   rw [drop_getD dDep hlt,List.foldl_cons]
   have htl:(l.drop (j+1)).length=l.length-(j+1):=List.length_drop
   generalize (l.take j).map (aftOf id after)=a at hal hnext ⊢
   generalize l.getD j dDep=x at hnext ⊢
   generalize l.drop (j+1)=b at htl hnext ⊢
   have hlen:∀ z:Dep,(a++z::b).length=l.length:=fun z=>by simp only [List.length_append,List.length_cons]; omega
   simp only [s_l10Shown_l2,Int.toNat_natCast]
   rw [getD_mid _ hal,set_mid _ hal,getD_mid _ hal,hlen,hlen,lt_nat,inR_nat,w64_suc (by omega)]
   simp only [hlt,decide_true,cond_true,chk_t,Bool.or_true]
   cases hc:(x.Kind==4)&&(x.After==id) with
   | false =>
    have ha:aftOf id after x=x:=by simp only [aftOf,hc,cond_false]
    have hb:aftD id after y x=y:=by simp only [aftD,hc,Bool.false_and,cond_false]
    rw [ha] at hnext
    rw [cond_false,hb]
    exact hnext y (by omega) (by omega)
   | true =>
    have ha:aftOf id after x={ x with After:=after }:=by simp only [aftOf,hc,cond_true]
    rw [ha] at hnext
    rw [cond_true]
    cases h0:after==0 with
    | false =>
     have hb:aftD id after y x=y:=by simp only [aftD,hc,h0,Bool.and_false,cond_false]
     rw [cond_false,hb]
     exact hnext y (by omega) (by omega)
    | true =>
     have hb:aftD id after y x=markD (unitOfBlock x.Block) y:=by simp only [aftD,hc,h0,Bool.and_true,cond_true]
     rw [cond_true,UnitOfBlock_eq,l08Mark_eq,mark_mk,hb]
     exact hnext _ (by omega) (by omega)
theorem l10Shown_eq {n:Nat} (hn:FUEL<=n) (m:Mem) (hm:SzMem m) (id after:Int) (k:Mem->Option R):s_l10Shown n id after m k=k (shown id after m):=by
 have hdp:m.Deps.length<=2097152:=hm.dp
 have hle:(dropDep m id).Deps.length<=m.Deps.length:=List.length_filter_le _ _
 simp only [s_l10Shown]
 rw [DropDep_eq hn m hm]
 exact (shown_loop (R:=R) id after _ _ _ _ _ m.Next (dropDep m id).Deps (by omega) (dropDep m id).Deps.length 0 n m.Dirty (by omega) (fuel_lt hn (by omega))).trans rfl
theorem depNums_mono {m m':Mem} (h:m.Next<=m'.Next) {d:Dep} (hd:depNums m d=true):depNums m' d=true:=by
 simp only [depNums,Bool.and_eq_true,within_iff] at hd ⊢
 obtain ⟨h1,h2,h3,h4,h5,h6,h7⟩:=hd
 exact ⟨⟨h1.1,by omega⟩,h2,h3,h4,h5,h6,h7.1,by omega⟩
theorem MemR.put {m:Mem} (h:MemR m) (d:Dep) (hn:depNums { m with Next:=m.Next+1 } { d with Id:=m.Next }=true) (hb:d.Blocks.all (fun p=>within p 1 16)=true) (hk:depKind m d=true):MemR (putDep m d).1:=by
 simp only [putDep]
 cases hp:mayPut m with
 | false=>exact h
 | true =>
  simp only [mayPut,Bool.and_eq_true,decide_eq_true_eq,within_iff] at hp
  have hmem:∀ x∈m.Deps++[{ d with Id:=m.Next }],x∈m.Deps\/x={ d with Id:=m.Next }:=by
   intro x hx
   simpa using hx
  refine ⟨h.d,h.dy,?_,?_,?_,?_,?_,?_,?_⟩
  ·show (m.Deps++[_]).length<=40
   rw [List.length_append,List.length_singleton]; omega
  ·show 1<=m.Next+1; omega
  ·show m.Next+1<=100000; omega
  ·intro x hx
   rcases hmem x hx with hx | rfl
   ·exact depNums_mono (m:=m) (by show m.Next<=m.Next+1; omega) (h.num x hx)
   ·exact hn
  ·intro x hx
   rcases hmem x hx with hx | rfl
   ·exact h.bs x hx
   ·exact hb
  ·intro x hx
   rcases hmem x hx with hx | rfl
   ·exact h.knd x hx
   ·exact hk
  ·show (m.Deps++[_]).Pairwise _
   rw [List.pairwise_append]
   refine ⟨h.ids,List.pairwise_singleton _ _,fun a ha b hb=> ?_⟩
   rw [List.mem_singleton] at hb
   subst hb
   have:=h.num a ha
   simp only [depNums,Bool.and_eq_true,within_iff] at this
   show ¬ a.Id=m.Next
   omega
theorem mem_set {α:Type} {l:List α} {i:Nat} {a x:α} (h:x∈l.set i a):x∈l\/x=a:=List.mem_or_eq_of_mem_set h
theorem inoAt_set {d:Disk} {l:List Inode} {i j:Int} {x:Inode} (h1:1<=i) (h2:i<=l.length) (j1:1<=j):inoAt { d with Inodes:=l.set (i-1).toNat x } j=bif j==i then x else l.getD (j-1).toNat dInode:=by
 show (l.set (i-1).toNat x).getD (j-1).toNat dInode=_
 cases h:j==i with
 | true =>
  have:j=i:=by simpa using h
  subst this
  simp only [cond_true]
  rw [List.getD_eq_getElem?_getD,List.getElem?_set_self (by omega)]; rfl
 | false =>
  have hne:¬ j=i:=by simpa using h
  simp only [cond_false]
  rw [List.getD_eq_getElem?_getD,List.getElem?_set_ne (by omega),← List.getD_eq_getElem?_getD]
theorem blkAt_set {d:Disk} {l:List Block} {i j:Int} {x:Block} (h1:1<=i) (h2:i<=l.length) (j1:1<=j):blkAt { d with Blocks:=l.set (i-1).toNat x } j=bif j==i then x else l.getD (j-1).toNat dBlock:=by
 show (l.set (i-1).toNat x).getD (j-1).toNat dBlock=_
 cases h:j==i with
 | true =>
  have:j=i:=by simpa using h
  subst this
  simp only [cond_true]
  rw [List.getD_eq_getElem?_getD,List.getElem?_set_self (by omega)]; rfl
 | false =>
  have hne:¬ j=i:=by simpa using h
  simp only [cond_false]
  rw [List.getD_eq_getElem?_getD,List.getElem?_set_ne (by omega),← List.getD_eq_getElem?_getD]
theorem MemR.setIno {m:Mem} (h:MemR m) {i:Int} (h1:1<=i) (h2:i<=8) {x:Inode} (hx:inodeOk x=true)
  (hd:∀ d∈m.Deps,(d.Kind==1||d.Kind==6)=true->d.Ino=i->(x.Ptrs.getD d.Ptr.toNat 0==d.Block)=true) :
  MemR { m with Disk:={ m.Disk with Inodes:=m.Disk.Inodes.set (i-1).toNat x } }:=by
 refine ⟨⟨h.d.bb,h.d.bi,List.length_set.trans h.d.di,h.d.db,?_,h.d.blk⟩,h.dy,h.dp,h.n1,h.n2,h.num,h.bs,?_,h.ids⟩
 ·intro y hy
  rcases mem_set hy with hy | rfl
  ·exact h.d.ino y hy
  ·exact hx
 ·intro d hd'
  have hk:=h.knd d hd'
  have hn:=h.num d hd'
  simp only [depNums,Bool.and_eq_true,within_iff] at hn
  simp only [depKind] at hk ⊢
  cases hc:(d.Kind==1)||(d.Kind==6) with
  | false =>
   simp only [hc,cond_false] at hk ⊢
   exact hk
  | true =>
   simp only [hc,cond_true,Bool.and_eq_true] at hk ⊢
   refine ⟨hk.1,?_⟩
   rw [inoAt_set h1 (by rw [h.d.di]; exact h2) (by omega)]
   cases he:d.Ino==i with
   | true=>exact hd d hd' hc (by simpa using he)
   | false=>exact hk.2
theorem MemR.setBlk {m:Mem} (h:MemR m) {p:Int} (h1:1<=p) (h2:p<=16) {b:Block} (hb:blockOk b=true)
  (hd:∀ d∈m.Deps,(d.Kind==2||d.Kind==3)=true->d.Block=p->b.Dir=true/\((b.Slots.getD d.Slot.toNat dSlot).Ino==d.Ino)=true)
  (h4:∀ d∈m.Deps,(d.Kind==4)=true->d.Block=p->b.Dir=true) :
  MemR { m with Disk:={ m.Disk with Blocks:=m.Disk.Blocks.set (p-1).toNat b } }:=by
 refine ⟨⟨h.d.bb,h.d.bi,h.d.di,List.length_set.trans h.d.db,h.d.ino,?_⟩,h.dy,h.dp,h.n1,h.n2,h.num,h.bs,?_,h.ids⟩
 ·intro y hy
  rcases mem_set hy with hy | rfl
  ·exact h.d.blk y hy
  ·exact hb
 ·intro d hd'
  have hk:=h.knd d hd'
  simp only [depKind] at hk ⊢
  cases hc:(d.Kind==1)||(d.Kind==6) with
  | true =>
   simp only [hc,cond_true] at hk ⊢
   exact hk
  | false =>
   simp only [hc,cond_false] at hk ⊢
   cases hc2:(d.Kind==2)||(d.Kind==3) with
   | true =>
    simp only [hc2,cond_true,Bool.and_eq_true,decide_eq_true_eq] at hk ⊢
    rw [blkAt_set h1 (by rw [h.d.db]; exact h2) (by omega)]
    cases he:d.Block==p with
    | true =>
     have:=hd d hd' hc2 (by simpa using he)
     exact ⟨⟨hk.1.1,this.1⟩,this.2⟩
    | false=>exact hk
   | false =>
    simp only [hc2,cond_false] at hk ⊢
    cases hc3:d.Kind==4 with
    | false=>rfl
    | true =>
     simp only [hc3,cond_true,Bool.and_eq_true,decide_eq_true_eq] at hk ⊢
     rw [blkAt_set h1 (by rw [h.d.db]; exact h2) (by omega)]
     cases he:d.Block==p with
     | true=>exact ⟨⟨hk.1.1,h4 d hd' hc3 (by simpa using he)⟩,hk.2⟩
     | false=>exact hk
theorem MemR.setBits {m:Mem} (h:MemR m) {bb bi:List Bool} (h1:bb.length=16) (h2:bi.length=8):MemR { m with Disk:={ m.Disk with Bits:=⟨bb,bi⟩ } } :=
 ⟨⟨h1,h2,h.d.di,h.d.db,h.d.ino,h.d.blk⟩,h.dy,h.dp,h.n1,h.n2,h.num,h.bs,h.knd,h.ids⟩
def stays (i:Int) (d:Dep):Bool:=((!(d.Kind==1))&&(!(d.Kind==6)))||(!(d.Ino==i))
theorem lose_l9 {n:Nat} (hn:FUEL<=n) (i:Int) (l:List Dep) (hl:l.length<=LEN) (q:List Dep->Option R):s_l10Lose_l9 i l q n 0 []=q (l.filter (stays i)):=by
 have hl':l.length<=2097152:=hl
 exact loop_filter (R:=R) (L:=s_l10Lose_l9 i l q) (l:=l) dDep (P:=stays i) (B:=0) (q:=q) (by omega)
  (fun m j acc _ hi ha=>by
   simp only [s_l10Lose_l9,lt_nat,inR_nat,hi,decide_true,chk_t,cond_true,Int.toNat_natCast,Bool.or_true,stays]
   rw [chk_of (lenOk_app ha (by omega) (by simp))]) (fun m acc=>by simp [s_l10Lose_l9]) (n:=n) (fuel_lt hn (by omega))
theorem lose_l17 {n:Nat} (hn:FUEL<=n) (v:Nat) (di:List Inode) (hl:(di.getD v dInode).Ptrs.length<=LEN) (q:List Int->Option R):s_l10Lose_l17 v di q n 0 []=q ((di.getD v dInode).Ptrs.filter fun p=>decide (0<p)):=by
 have hl':(di.getD v dInode).Ptrs.length<=2097152:=hl
 exact loop_filter (R:=R) (L:=s_l10Lose_l17 v di q) (l:=(di.getD v dInode).Ptrs) 0 (P:=fun p=>decide (0<p)) (B:=0) (q:=q) (by omega)
  (fun m j acc _ hi ha=>by
   simp only [s_l10Lose_l17,lt_nat,inR_nat,hi,decide_true,chk_t,cond_true,Int.toNat_natCast]
   rw [chk_of (lenOk_app ha (by omega) (by simp))]) (fun m acc=>by simp [s_l10Lose_l17]) (n:=n) (fuel_lt hn (by omega))
def fewer (x:Inode):Inode:=bif decide (0<x.Links) then ⟨x.Kind,x.Links-1,x.Ptrs⟩ else x
def inoSet (d:Disk) (i:Int) (x:Inode):Disk:={ d with Inodes:=d.Inodes.set (i-1).toNat x }
def blkSet (d:Disk) (p:Int) (b:Block):Disk:={ d with Blocks:=d.Blocks.set (p-1).toNat b }
def lose (i:Int) (m:Mem):Mem :=
 bif decide (40<=(m.Deps.length:Int))|| !within m.Next 1 99999 then m else
 bif decide (0<(fewer (inoAt m.Disk i)).Links)||((fewer (inoAt m.Disk i)).Kind==0) then ⟨inoSet m.Disk i (fewer (inoAt m.Disk i)),markD (unitOfIno i) m.Dirty,m.Deps,m.Next⟩ else
 (putDep ⟨inoSet m.Disk i (inodeNew 0),markD (unitOfIno i) m.Dirty,m.Deps.filter (stays i),m.Next⟩ ⟨0,5,i,0,0,0,eS,false,false,0,(inoAt m.Disk i).Ptrs.filter fun p=>decide (0<p)⟩).1
theorem fewer_ok {x:Inode} (h:inodeOk x=true):inodeOk (fewer x)=true:=by
 simp only [fewer]
 cases hl:decide (0<x.Links) with
 | false=>exact h
 | true =>
  simp only [inodeOk,Bool.and_eq_true,within_iff,decide_eq_true_eq,cond_true] at h hl ⊢
  refine ⟨h.1,⟨by omega,by omega⟩,h.2.2.1,h.2.2.2.1,?_⟩
  have:=h.2.2.2.2
  cases hk:x.Kind != 0 with
  | true=>rfl
  | false =>
   rw [hk,Bool.false_or,beq_iff_eq] at this
   omega
theorem fewer_ptrs (x:Inode):(fewer x).Ptrs=x.Ptrs:=by
 simp only [fewer]; cases decide (0<x.Links)<;>rfl
theorem inodeNew0_ok:inodeOk (inodeNew 0)=true:=by decide
theorem l10Lose_eq {n:Nat} (hn:FUEL<=n) (m:Mem) (hm:SzMem m) (i:Int) (h1:1<=i) (h2:i<=m.Disk.Inodes.length) (hk:within (inoAt m.Disk i).Links 0 200=true) (hp:(inoAt m.Disk i).Ptrs.length<=LEN) (k:Mem->Option R) :
  s_l10Lose n i m k=k (lose i m):=by
 have hdp:m.Deps.length<=2097152:=hm.dp
 have hdi:m.Disk.Inodes.length<=2097152:=hm.d.di
 simp only [s_l10Lose,In_eq,lose]
 cases hc:decide (40<=(m.Deps.length:Int)) with
 | true=>rfl
 | false =>
 cases hw:within m.Next 1 99999 with
 | false=>rfl
 | true =>
 rw [within_iff] at hk
 simp only [Bool.not_false,Bool.not_true,cond_true,cond_false,Bool.or_false]
 rw [w64_pred (by omega) (by omega),chk_of (inR_pred h1 h2)]
 have e0:m.Disk.Inodes.getD (i-1).toNat dInode=inoAt m.Disk i:=rfl
 rw [e0,l03Copy_eq _ hp,UnitOfIno_eq,l08Mark_eq,mark_eq]
 have fin:∀ (x:Inode),x.Ptrs=(inoAt m.Disk i).Ptrs ->
   s_l10Lose_l9 i m.Deps (fun list=>s_l10Lose_l17 (i-1).toNat (m.Disk.Inodes.set (i-1).toNat x) (fun blocks =>
    s_InodeNew 0 fun i_2=>chk (inR (i-1) (m.Disk.Inodes.set (i-1).toNat x).length) <|
    s_PutDep n ⟨⟨m.Disk.Bits,(m.Disk.Inodes.set (i-1).toNat x).set (i-1).toNat i_2,m.Disk.Blocks⟩,markD (unitOfIno i) m.Dirty,list,m.Next⟩ ⟨0,5,i,0,0,0,eS,false,false,0,blocks⟩ fun xm_1 r_2=>k xm_1) n 0 []) n 0 [] =
   k (putDep ⟨inoSet m.Disk i (inodeNew 0),markD (unitOfIno i) m.Dirty,m.Deps.filter (stays i),m.Next⟩ ⟨0,5,i,0,0,0,eS,false,false,0,(inoAt m.Disk i).Ptrs.filter fun p=>decide (0<p)⟩).1:=by
  intro x hx
  have eg:(m.Disk.Inodes.set (i-1).toNat x).getD (i-1).toNat dInode=x:=by
   rw [List.getD_eq_getElem?_getD,List.getElem?_set_self (by omega)]; rfl
  rw [lose_l9 hn i _ hm.dp,lose_l17 hn _ _ (by rw [eg,hx]; exact hp),eg,hx,InodeNew_eq,chk_of (inR_pred h1 (by rw [List.length_set]; exact h2)),List.set_set]
  rw [PutDep_eq hn]
  ·rfl
  ·refine ⟨⟨hm.d.bb,hm.d.bi,by show (List.set _ _ _).length<=LEN; rw [List.length_set]; exact hm.d.di,hm.d.db,?_,hm.d.blk⟩,by show (markD _ _).length<=LEN; rw [markD_len]; exact hm.dy,Nat.le_trans (List.length_filter_le _ _) hm.dp,fun d hd=>hm.dep d ((List.mem_filter.1 hd).1)⟩
   intro y hy
   rcases mem_set hy with hy | rfl
   ·exact hm.d.ino y hy
   ·show (2:Nat)<=LEN; decide
  ·exact Nat.le_trans (List.length_filter_le _ _) hp
 cases hl:decide (0<(inoAt m.Disk i).Links) with
 | false =>
  have ef:fewer (inoAt m.Disk i)=inoAt m.Disk i:=by simp only [fewer,hl,cond_false]
  simp only [cond_false]
  rw [chk_of (inR_pred h1 h2),ef]
  cases hz:decide (0<(inoAt m.Disk i).Links)||((inoAt m.Disk i).Kind==0) with
  | true=>rw [hl] at hz; simp only [hl,hz,cond_true]; rfl
  | false =>
   rw [hl] at hz; simp only [hl,hz,cond_false]
   exact fin _ rfl
 | true =>
  rw [decide_eq_true_eq] at hl
  have ef:fewer (inoAt m.Disk i)=⟨(inoAt m.Disk i).Kind,(inoAt m.Disk i).Links-1,(inoAt m.Disk i).Ptrs⟩:=by simp only [fewer,hl,decide_true,cond_true]
  simp only [cond_true]
  rw [chk_of (inR_pred h1 h2),ef,w64_id (by omega) (by omega)]
  cases hz:decide (0<(inoAt m.Disk i).Links-1)||((inoAt m.Disk i).Kind==0) with
  | true=>rfl
  | false=>exact fin ⟨(inoAt m.Disk i).Kind,(inoAt m.Disk i).Links-1,(inoAt m.Disk i).Ptrs⟩ rfl
theorem putDep_disk (m:Mem) (d:Dep):(putDep m d).1.Disk=m.Disk:=by
 simp only [putDep]; cases mayPut m<;>rfl
theorem MemR.lose {m:Mem} (h:MemR m) {i:Int} (h1:1<=i) (h2:i<=8):MemR (Soft.lose i m):=by
 simp only [Soft.lose]
 cases hc:decide (40<=(m.Deps.length:Int))|| !within m.Next 1 99999 with
 | true=>exact h
 | false =>
  have hx:=h.d.inoR h1 h2
  have hpt:∀ d∈m.Deps,(d.Kind==1||d.Kind==6)=true->d.Ino=i->((inoAt m.Disk i).Ptrs.getD d.Ptr.toNat 0==d.Block)=true:=by
   intro d hd hk he
   have:=h.knd d hd
   simp only [depKind,hk,cond_true,Bool.and_eq_true,he] at this
   exact this.2
  simp only [cond_false]
  cases hz:decide (0<(fewer (inoAt m.Disk i)).Links)||((fewer (inoAt m.Disk i)).Kind==0) with
  | true =>
   have:=h.setIno h1 h2 (fewer_ok hx) (fun d hd hk he=>by rw [fewer_ptrs]; exact hpt d hd hk he)
   exact this.markD (unitOfIno i)
  | false =>
   have h3:MemR { m with Deps:=m.Deps.filter (stays i) }:=h.less List.filter_sublist
   have h4:=h3.setIno h1 h2 inodeNew0_ok (fun d hd hk he=>by
    have:=(List.mem_filter.1 hd).2
    simp only [stays,he,beq_self_eq_true,Bool.not_true,Bool.or_false,Bool.and_eq_true,Bool.not_eq_true'] at this
    rw [this.1,this.2] at hk
    cases hk)
   have h5:=h4.markD (unitOfIno i)
   have hw:within m.Next 1 99999=true:=by
    rw [Bool.or_eq_false_iff] at hc
    simpa using hc.2
   rw [within_iff] at hw
   refine h5.put _ ?_ ?_ ?_
   ·simp only [depNums,Bool.and_eq_true,within_iff]
    refine ⟨⟨by omega,by omega⟩,⟨by decide,by decide⟩,⟨h1,h2⟩,⟨by decide,by decide⟩,⟨by decide,by decide⟩,⟨by decide,by decide⟩,by decide,by omega⟩
   ·rw [List.all_eq_true]
    intro p hp
    rw [List.mem_filter,decide_eq_true_eq] at hp
    simp only [inodeOk,Bool.and_eq_true,List.all_eq_true,within_iff] at hx
    have:=(hx.2.2.2.1 p hp.1).1
    rw [within_iff]; omega
   ·rfl
theorem loop_down {S:Type} {L:Nat->Int->S->Option R} {g:Nat->S->S} {q:S->Option R} {B:Nat}
  (hq:∀ m acc,B<m->L m (-1) acc=q acc):∀ (len n:Nat) (acc:S),(∀ m i acc,i<len->B<m->L (m+1) (i:Int) acc=L m ((i:Int)-1) (g i acc))->len+B<n ->
   L n ((len:Int)-1) acc=q ((List.range' 0 len).reverse.foldl (fun a i=>g i a) acc)
 | 0,n,acc,hs,hn=>hq n acc (by omega)
 | len+1,n,acc,hs,hn=>by
  cases n with
  | zero=>omega
  | succ n =>
   have e:((len+1:Nat):Int)-1=(len:Int):=by omega
   rw [e,hs n len acc (by omega) (by omega),loop_down hq len n _ (fun m i acc hi hm=>hs m i acc (by omega) hm) (by omega)]
   rw [List.range'_concat,List.reverse_append]
   simp
def freeAt (m:Mem) (p:Int) (s:Nat):Bool :=
 (((((blkAt m.Disk p).Slots.getD s dSlot).Name)==eS)&&(((blkAt m.Disk p).Slots.getD s dSlot).Ino==0))&&(depAt m p s==0)
def putIn (m:Mem) (p:Int) (acc:Int×Int):Int×Int :=
 bif within p 1 m.Disk.Blocks.length&&(blkAt m.Disk p).Dir then (List.range' 0 (blkAt m.Disk p).Slots.length).reverse.foldl (fun a s=>bif freeAt m p s then (p,(s:Int)) else a) acc else acc
def putAt (m:Mem) (l:List Int):Int×Int:=(List.range' 0 l.length).reverse.foldl (fun a i=>putIn m (l.getD i 0) a) (0,0)
theorem put_l9f1 {n:Nat} (hn:FUEL<=n) (m0:Mem) (hm:m0.Deps.length<=LEN) (x:Nat) (v:Nat) (hx:x<(m0.Disk.Inodes.getD v dInode).Ptrs.length) (w:Nat)
  (hw:w=(((m0.Disk.Inodes.getD v dInode).Ptrs.getD x 0)-1).toNat) (hb:(m0.Disk.Blocks.getD w dBlock).Slots.length<=LEN) (hd:(m0.Disk.Blocks.getD w dBlock).Dir=true) (q:Int->Int->Option R) (acc:Int×Int) (m:Nat) (hmm:LEN<m) :
  s_l12Put_l9f1 n (x:Int) true m0.Next v true w m0.Disk.Bits.Blocks m0.Disk.Bits.Inos m0.Disk.Inodes m0.Disk.Blocks m0.Dirty m0.Deps q m acc.1 acc.2 (w64 (((m0.Disk.Blocks.getD w dBlock).Slots.length:Int)-1)) =
   q ((List.range' 0 (m0.Disk.Blocks.getD w dBlock).Slots.length).reverse.foldl (fun a s=>bif freeAt m0 ((m0.Disk.Inodes.getD v dInode).Ptrs.getD x 0) s then ((m0.Disk.Inodes.getD v dInode).Ptrs.getD x 0,(s:Int)) else a) acc).1
    ((List.range' 0 (m0.Disk.Blocks.getD w dBlock).Slots.length).reverse.foldl (fun a s=>bif freeAt m0 ((m0.Disk.Inodes.getD v dInode).Ptrs.getD x 0) s then ((m0.Disk.Inodes.getD v dInode).Ptrs.getD x 0,(s:Int)) else a) acc).2:=by
 have hb':(m0.Disk.Blocks.getD w dBlock).Slots.length<=2097152:=hb
 have hm2:2097152<m:=hmm
 have ew:m0.Disk.Blocks.getD w dBlock=blkAt m0.Disk ((m0.Disk.Inodes.getD v dInode).Ptrs.getD x 0):=by rw [hw]; rfl
 generalize hp:(m0.Disk.Inodes.getD v dInode).Ptrs.getD x 0=p at ew hw ⊢
 rw [w64_id (by omega) (by omega)]
 refine loop_down (R:=R) (S:=Int×Int) (L:=fun m s acc=>s_l12Put_l9f1 n (x:Int) true m0.Next v true w m0.Disk.Bits.Blocks m0.Disk.Bits.Inos m0.Disk.Inodes m0.Disk.Blocks m0.Dirty m0.Deps q m acc.1 acc.2 s)
  (g:=fun s a=>bif freeAt m0 p s then (p,(s:Int)) else a) (q:=fun a=>q a.1 a.2) (B:=0) ?_ _ _ _ ?_ (by omega)
 ·intro m acc hm
  cases m with
  | zero=>omega
  | succ m=>rfl
 ·intro m s acc hs _
  have h0:decide ((0:Int)<=(s:Int))=true:=decide_eq_true (by omega)
  simp only [s_l12Put_l9f1,h0,Bool.and_true,cond_true,inR_nat,hs,hx,decide_true,chk_t,Bool.or_true,Int.toNat_natCast,hp]
  have ed:=DepAt_eq (R:=R) hn m0 hm p s
  refine (ed _).trans ?_
  simp only [freeAt]
  rw [w64_id (by omega) (by omega),← ew]
  cases ((((m0.Disk.Blocks.getD w dBlock).Slots.getD s dSlot).Name)==eS)&&(((m0.Disk.Blocks.getD w dBlock).Slots.getD s dSlot).Ino==0) with
  | false=>rfl
  | true=>cases h:depAt m0 p s==0<;>simp [h]
theorem put_l5 {n:Nat} (hn:FUEL<=n) (m0:Mem) (hm:SzMem m0) (v:Nat) (hl:(m0.Disk.Inodes.getD v dInode).Ptrs.length<=LEN) (q:Int->Int->Option R) :
  s_l12Put_l5 n m0.Next v m0.Disk.Bits.Blocks m0.Disk.Bits.Inos m0.Disk.Inodes m0.Disk.Blocks m0.Dirty m0.Deps q n 0 0 (w64 (((m0.Disk.Inodes.getD v dInode).Ptrs.length:Int)-1)) =
   q (putAt m0 (m0.Disk.Inodes.getD v dInode).Ptrs).1 (putAt m0 (m0.Disk.Inodes.getD v dInode).Ptrs).2:=by
 have hl':(m0.Disk.Inodes.getD v dInode).Ptrs.length<=2097152:=hl
 have hdb:m0.Disk.Blocks.length<=2097152:=hm.d.db
 have hn':100000000<=n:=hn
 rw [w64_id (by omega) (by omega)]
 refine loop_down (R:=R) (S:=Int×Int) (L:=fun m x acc=>s_l12Put_l5 n m0.Next v m0.Disk.Bits.Blocks m0.Disk.Bits.Inos m0.Disk.Inodes m0.Disk.Blocks m0.Dirty m0.Deps q m acc.1 acc.2 x)
  (g:=fun i a=>putIn m0 ((m0.Disk.Inodes.getD v dInode).Ptrs.getD i 0) a) (q:=fun a=>q a.1 a.2) (B:=2097152) ?_ _ n (0,0) ?_ (by omega)
 ·intro m acc hm
  cases m with
  | zero=>omega
  | succ m=>rfl
 ·intro m x acc hx hmm
  have h0:decide ((0:Int)<=(x:Int))=true:=decide_eq_true (by omega)
  obtain ⟨m',rfl⟩:∃ m',m=m'+1:=⟨m-1,by omega⟩
  rw [s_l12Put_l5]
  simp only [h0,cond_true,inR_nat,hx,decide_true,chk_t,Int.toNat_natCast,s_l11BlockA,In_eq]
  rw [w64_id (n:=(x:Int)-1) (by omega) (by omega)]
  generalize hp:(m0.Disk.Inodes.getD v dInode).Ptrs.getD x 0=p
  cases hw:within p 1 (m0.Disk.Blocks.length:Int) with
  | false =>
   have e:putIn m0 p acc=acc:=by simp only [putIn,hw,Bool.false_and,cond_false]
   rw [e]
   simp only [Bool.not_false,cond_true,s_l12Put_l9,Bool.and_false,Bool.false_and,cond_false]
  | true =>
   have hw':=within_iff.1 hw
   simp only [Bool.not_true,cond_false]
   rw [w64_pred (by omega) (by omega),chk_of (inR_pred hw'.1 hw'.2)]
   have eb:m0.Disk.Blocks.getD (p-1).toNat dBlock=blkAt m0.Disk p:=rfl
   have hsz:=hm.d.blk _ (getD_mem dBlock (l:=m0.Disk.Blocks) (i:=(p-1).toNat) (by omega))
   cases hd:(blkAt m0.Disk p).Dir with
   | false =>
    have e:putIn m0 p acc=acc:=by simp only [putIn,hw,hd,Bool.and_false,cond_false]
    rw [e,eb,hd]
    simp only [s_l12Put_l9f1,Bool.and_false,Bool.false_and,cond_false]
   | true =>
    have e:putIn m0 p acc=(List.range' 0 (blkAt m0.Disk p).Slots.length).reverse.foldl (fun a s=>bif freeAt m0 p s then (p,(s:Int)) else a) acc:=by simp only [putIn,hw,hd,Bool.and_true,cond_true]
    rw [e,eb,hd]
    have:=put_l9f1 (R:=R) hn m0 hm.dp x v hx (p-1).toNat (by rw [hp]) hsz.1 (by rw [eb,hd])
     (fun block_2 slot_2=>s_l12Put_l5 n m0.Next v m0.Disk.Bits.Blocks m0.Disk.Bits.Inos m0.Disk.Inodes m0.Disk.Blocks m0.Dirty m0.Deps q (m'+1) block_2 slot_2 ((x:Int)-1)) acc (m'+1) hmm
    rw [hp,eb] at this
    exact this
structure FreeSlot (m:Mem) (p s:Int):Prop where
 p1:1<=p
 p2:p<=m.Disk.Blocks.length
 dir:(blkAt m.Disk p).Dir=true
 s0:0<=s
 s1:s<(blkAt m.Disk p).Slots.length
 free:freeAt m p s.toNat=true
theorem putIn_ok {m:Mem} {p:Int} {acc:Int×Int} (h:acc=(0,0)\/FreeSlot m acc.1 acc.2):putIn m p acc=(0,0)\/FreeSlot m (putIn m p acc).1 (putIn m p acc).2:=by
 simp only [putIn]
 cases hc:within p 1 m.Disk.Blocks.length&&(blkAt m.Disk p).Dir with
 | false=>exact h
 | true =>
  rw [Bool.and_eq_true,within_iff] at hc
  simp only [cond_true]
  have:∀ (l:List Nat) (acc:Int×Int),(∀ s∈l,s<(blkAt m.Disk p).Slots.length)->(acc=(0,0)\/FreeSlot m acc.1 acc.2) ->
    (l.foldl (fun a (s:Nat)=>bif freeAt m p s then (p,(s:Int)) else a) acc=(0,0)\/FreeSlot m (l.foldl (fun a (s:Nat)=>bif freeAt m p s then (p,(s:Int)) else a) acc).1 (l.foldl (fun a (s:Nat)=>bif freeAt m p s then (p,(s:Int)) else a) acc).2):=by
   intro l
   induction l with
   | nil=>intro acc _ h; exact h
   | cons s l ih =>
    intro acc hl h
    rw [List.foldl_cons]
    refine ih _ (fun s hs=>hl s (List.mem_cons_of_mem _ hs)) ?_
    cases hf:freeAt m p s with
    | false=>exact h
    | true=>exact Or.inr ⟨hc.1.1,hc.1.2,hc.2,by show (0:Int)<=(s:Int); omega,by show (s:Int)<((blkAt m.Disk p).Slots.length:Int); have:=hl s (List.mem_cons_self ..); omega,hf⟩
  refine this _ acc (fun s hs=> ?_) h
  rw [List.mem_reverse,List.mem_range'] at hs
  obtain ⟨i,hi,rfl⟩:=hs
  omega
theorem putAt_ok (m:Mem) (l:List Int):putAt m l=(0,0)\/FreeSlot m (putAt m l).1 (putAt m l).2:=by
 have:∀ (r:List Nat) (acc:Int×Int),(acc=(0,0)\/FreeSlot m acc.1 acc.2)->(r.foldl (fun a i=>putIn m (l.getD i 0) a) acc=(0,0)\/FreeSlot m (r.foldl (fun a i=>putIn m (l.getD i 0) a) acc).1 (r.foldl (fun a i=>putIn m (l.getD i 0) a) acc).2):=by
  intro r
  induction r with
  | nil=>intro acc h; exact h
  | cons i r ih=>intro acc h; rw [List.foldl_cons]; exact ih _ (putIn_ok h)
 exact this _ (0,0) (Or.inl rfl)
def slotS (s:Slot):Bool:=(s.Name==eS&&s.Ino==0)||(nameOk s.Name&&within s.Ino 1 8)
def blockS (b:Block):Bool:=bif b.Dir then (b.Slots.length==4&&b.Text==eS)&&b.Slots.all slotS else b.Slots.length==0&&decide (b.Text.size<=16)
theorem blockS_of {b:Block} (h:blockOk b=true):blockS b=true:=by
 simp only [blockOk,blockS] at h ⊢
 cases hd:b.Dir with
 | false=>rw [hd] at h; exact h
 | true =>
  simp only [hd,cond_true,Bool.and_eq_true] at h ⊢
  refine ⟨h.1,?_⟩
  rw [List.all_eq_true]
  intro s hs
  obtain ⟨i,hi,rfl⟩:=List.mem_iff_getElem.1 hs
  have h4:b.Slots.length=4:=by simpa using h.1.1
  have:=range_all h.2 (i:=i) (by omega)
  simp only [slotB,Bool.or_eq_true,Bool.and_eq_true,getD_get _ _ hi] at this
  simp only [slotS,Bool.or_eq_true,Bool.and_eq_true]
  exact this.imp id (fun h=>h.1)
theorem blockS_sz {b:Block} (h:blockS b=true):SzBlock b:=by
 simp only [blockS] at h
 cases hd:b.Dir with
 | false =>
  simp only [hd,cond_false,Bool.and_eq_true,beq_iff_eq,decide_eq_true_eq] at h
  have h0:b.Slots=[]:=List.length_eq_zero_iff.1 h.1
  exact ⟨by rw [h0]; exact Nat.zero_le _,Nat.le_trans h.2 (by decide),by rw [h0]; intro s hs; cases hs⟩
 | true =>
  simp only [hd,cond_true,Bool.and_eq_true,beq_iff_eq,List.all_eq_true] at h
  obtain ⟨⟨h1,h2⟩,h3⟩:=h
  refine ⟨by rw [h1]; decide,by rw [h2]; decide,fun s hs=> ?_⟩
  have:=h3 s hs
  simp only [slotS,Bool.or_eq_true,Bool.and_eq_true,beq_iff_eq] at this
  rcases this with h | h
  ·show s.Name.size<=LEN; rw [h.1]; decide
  ·exact Nat.le_trans (nameOk_size h.1).2 (by decide)
theorem blockS_len {b:Block} (h:blockS b=true) (hd:b.Dir=true):b.Slots.length=4:=by
 simp only [blockS,hd,cond_true,Bool.and_eq_true,beq_iff_eq] at h
 exact h.1.1
theorem blockS_slot {b:Block} (h:blockS b=true) (hd:b.Dir=true) {s:Slot} (hs:s∈b.Slots):slotS s=true:=by
 simp only [blockS,hd,cond_true,Bool.and_eq_true,List.all_eq_true] at h
 exact h.2 s hs
theorem blockS_set {b:Block} (h:blockS b=true) (hd:b.Dir=true) (i:Nat) {s:Slot} (hs:slotS s=true):blockS ⟨b.Dir,b.Slots.set i s,b.Text⟩=true:=by
 simp only [blockS,hd,cond_true,Bool.and_eq_true,List.all_eq_true,List.length_set] at h ⊢
 exact ⟨h.1,fun x hx=>(mem_set hx).elim (h.2 x) (fun e=>e▸hs)⟩
structure DiskT (d:Disk):Prop where
 bb:d.Bits.Blocks.length=16
 bi:d.Bits.Inos.length=8
 di:d.Inodes.length=8
 db:d.Blocks.length=16
 ino:∀ x∈d.Inodes,inodeOk x=true
 blk:∀ b∈d.Blocks,blockS b=true
theorem DiskR.t {d:Disk} (h:DiskR d):DiskT d:=⟨h.bb,h.bi,h.di,h.db,h.ino,fun b hb=>blockS_of (h.blk b hb)⟩
theorem DiskT.sz {d:Disk} (h:DiskT d):SzDisk d:=by
 refine ⟨by rw [h.bb]; decide,by rw [h.bi]; decide,by rw [h.di]; decide,by rw [h.db]; decide,fun x hx=> ?_,fun b hb=>blockS_sz (h.blk b hb)⟩
 show x.Ptrs.length<=LEN
 rw [inodeOk_len (h.ino x hx)]; decide
theorem DiskT.inoR {d:Disk} (h:DiskT d) {i:Int} (h1:1<=i) (h2:i<=8):inodeOk (inoAt d i)=true:=h.ino _ (getD_mem dInode (by rw [h.di]; omega))
theorem DiskT.blkR {d:Disk} (h:DiskT d) {p:Int} (h1:1<=p) (h2:p<=16):blockS (blkAt d p)=true:=h.blk _ (getD_mem dBlock (by rw [h.db]; omega))
theorem DiskT.ptrs {d:Disk} (h:DiskT d) {i:Int} (h1:1<=i) (h2:i<=8):(inoAt d i).Ptrs.length=2:=inodeOk_len (h.inoR h1 h2)
structure MemT (m:Mem):Prop where
 d:DiskT m.Disk
 dy:m.Dirty.length=21
 dp:m.Deps.length<=40
 n1:1<=m.Next
 n2:m.Next<=100000
 num:∀ x∈m.Deps,depNums m x=true
 bs:∀ x∈m.Deps,x.Blocks.all (fun p=>within p 1 16)=true
 sz:∀ x∈m.Deps,SzDep x
theorem MemT.szm {m:Mem} (h:MemT m):SzMem m:=⟨h.d.sz,by rw [h.dy]; decide,Nat.le_trans h.dp (by decide),h.sz⟩
theorem MemT.dirty {m:Mem} (h:MemT m) {y:List Bool} (hy:y.length=21):MemT { m with Dirty:=y }:=⟨h.d,hy,h.dp,h.n1,h.n2,h.num,h.bs,h.sz⟩
theorem MemT.mark {m:Mem} (h:MemT m) (u:Int):MemT { m with Dirty:=markD u m.Dirty }:=h.dirty ((markD_len u _).trans h.dy)
theorem MemT.disk {m:Mem} (h:MemT m) {d:Disk} (hd:DiskT d):MemT { m with Disk:=d }:=⟨hd,h.dy,h.dp,h.n1,h.n2,h.num,h.bs,h.sz⟩
theorem MemT.less {m:Mem} (h:MemT m) {l:List Dep} (hl:l.Sublist m.Deps):MemT { m with Deps:=l } :=
 ⟨h.d,h.dy,Nat.le_trans hl.length_le h.dp,h.n1,h.n2,fun x hx=>h.num x (hl.subset hx),fun x hx=>h.bs x (hl.subset hx),fun x hx=>h.sz x (hl.subset hx)⟩
theorem MemT.drop {m:Mem} (h:MemT m) (id:Int):MemT (dropDep m id):=h.less List.filter_sublist
theorem MemT.put {m:Mem} (h:MemT m) (d:Dep) (hn:depNums { m with Next:=m.Next+1 } { d with Id:=m.Next }=true) (hb:d.Blocks.all (fun p=>within p 1 16)=true) (hs:SzDep d):MemT (putDep m d).1:=by
 simp only [putDep]
 cases hp:mayPut m with
 | false=>exact h
 | true =>
  simp only [mayPut,Bool.and_eq_true,decide_eq_true_eq,within_iff] at hp
  have hmem:∀ x∈m.Deps++[{ d with Id:=m.Next }],x∈m.Deps\/x={ d with Id:=m.Next }:=by
   intro x hx
   simpa using hx
  refine ⟨h.d,h.dy,?_,?_,?_,?_,?_,?_⟩
  ·show (m.Deps++[_]).length<=40
   rw [List.length_append,List.length_singleton]; omega
  ·show 1<=m.Next+1; omega
  ·show m.Next+1<=100000; omega
  ·intro x hx
   rcases hmem x hx with hx | rfl
   ·exact depNums_mono (m:=m) (by show m.Next<=m.Next+1; omega) (h.num x hx)
   ·exact hn
  ·intro x hx
   rcases hmem x hx with hx | rfl
   ·exact h.bs x hx
   ·exact hb
  ·intro x hx
   rcases hmem x hx with hx | rfl
   ·exact h.sz x hx
   ·exact hs
theorem DiskT.setIno {d:Disk} (h:DiskT d) (i:Int) {x:Inode} (hx:inodeOk x=true):DiskT (inoSet d i x) :=
 ⟨h.bb,h.bi,List.length_set.trans h.di,h.db,fun y hy=>(mem_set hy).elim (h.ino y) (fun e=>e▸hx),h.blk⟩
theorem DiskT.setBlk {d:Disk} (h:DiskT d) (p:Int) {b:Block} (hb:blockS b=true):DiskT (blkSet d p b) :=
 ⟨h.bb,h.bi,h.di,List.length_set.trans h.db,h.ino,fun y hy=>(mem_set hy).elim (h.blk y) (fun e=>e▸hb)⟩
theorem DiskT.setBits {d:Disk} (h:DiskT d) {bb bi:List Bool} (h1:bb.length=16) (h2:bi.length=8):DiskT { d with Bits:=⟨bb,bi⟩ } :=
 ⟨h1,h2,h.di,h.db,h.ino,h.blk⟩
theorem MemT.lose {m:Mem} (h:MemT m) {i:Int} (h1:1<=i) (h2:i<=8):MemT (Soft.lose i m):=by
 simp only [Soft.lose]
 cases hc:decide (40<=(m.Deps.length:Int))|| !within m.Next 1 99999 with
 | true=>exact h
 | false =>
  have hx:=h.d.inoR h1 h2
  simp only [cond_false]
  cases hz:decide (0<(fewer (inoAt m.Disk i)).Links)||((fewer (inoAt m.Disk i)).Kind==0) with
  | true=>exact (h.disk (h.d.setIno i (fewer_ok hx))).mark (unitOfIno i)
  | false =>
   have h3:MemT { m with Deps:=m.Deps.filter (stays i) }:=h.less List.filter_sublist
   have h5:=(h3.disk (h.d.setIno i inodeNew0_ok)).mark (unitOfIno i)
   have hw:within m.Next 1 99999=true:=by
    rw [Bool.or_eq_false_iff] at hc
    simpa using hc.2
   rw [within_iff] at hw
   refine h5.put _ ?_ ?_ ⟨by show eS.size<=LEN; decide,Nat.le_trans (List.length_filter_le _ _) (by rw [h.d.ptrs h1 h2]; decide)⟩
   ·simp only [depNums,Bool.and_eq_true,within_iff]
    refine ⟨⟨by omega,by omega⟩,⟨by decide,by decide⟩,⟨h1,h2⟩,⟨by decide,by decide⟩,⟨by decide,by decide⟩,⟨by decide,by decide⟩,by decide,by omega⟩
   ·rw [List.all_eq_true]
    intro p hp
    rw [List.mem_filter,decide_eq_true_eq] at hp
    simp only [inodeOk,Bool.and_eq_true,List.all_eq_true,within_iff] at hx
    have:=(hx.2.2.2.1 p hp.1).1
    rw [within_iff]; omega
theorem aftD_len (id after:Int) (y:List Bool) (d:Dep):(aftD id after y d).length=y.length:=by
 simp only [aftD]
 cases ((d.Kind==4)&&(d.After==id))&&(after==0) with
 | false=>rfl
 | true=>exact markD_len _ _
theorem aftDs_len (id after:Int) (l:List Dep):∀ y:List Bool,(l.foldl (aftD id after) y).length=y.length:=by
 induction l with
 | nil=>intro y; rfl
 | cons d l ih=>intro y; rw [List.foldl_cons,ih,aftD_len]
theorem MemT.shown {m:Mem} (h:MemT m) (id after:Int) (h1:0<=after) (h2:after<=m.Next-1):MemT (Soft.shown id after m):=by
 have h':=h.drop id
 have hmem:∀ x∈(dropDep m id).Deps.map (aftOf id after),∃ y∈(dropDep m id).Deps,x=y\/x={ y with After:=after }:=by
  intro x hx
  obtain ⟨y,hy,rfl⟩:=List.mem_map.1 hx
  refine ⟨y,hy,?_⟩
  simp only [aftOf]
  cases (y.Kind==4)&&(y.After==id) with
  | false=>exact Or.inl rfl
  | true=>exact Or.inr rfl
 refine ⟨h.d,(aftDs_len id after _ _).trans h.dy,by show (List.map _ _).length<=40; rw [List.length_map]; exact h'.dp,h.n1,h.n2,fun x hx=> ?_,fun x hx=> ?_,fun x hx=> ?_⟩
 ·obtain ⟨y,hy,e | e⟩:=hmem x hx
  ·subst e; exact h'.num _ hy
  ·have:=h'.num _ hy
   subst e
   simp only [depNums,Bool.and_eq_true,within_iff] at this ⊢
   exact ⟨this.1,this.2.1,this.2.2.1,this.2.2.2.1,this.2.2.2.2.1,this.2.2.2.2.2.1,h1,h2⟩
 ·obtain ⟨y,hy,e | e⟩:=hmem x hx
  ·subst e; exact h'.bs _ hy
  ·subst e; exact h'.bs y hy
 ·obtain ⟨y,hy,e | e⟩:=hmem x hx
  ·subst e; exact h'.sz _ hy
  ·subst e; exact h'.sz y hy
theorem takeBlock_spec {m:Mem} (h:MemT m):MemT (takeBlock m).1/\(takeBlock m).1.Next=m.Next/\(takeBlock m).1.Deps=m.Deps/\((takeBlock m).2==0\/(1<=(takeBlock m).2/\(takeBlock m).2<=16))/\(takeBlock m).1.Disk.Inodes=m.Disk.Inodes/\(takeBlock m).1.Disk.Blocks=m.Disk.Blocks:=by
 simp only [takeBlock]
 cases hf:firstFree m.Disk.Bits.Blocks==0 with
 | true=>exact ⟨h,rfl,rfl,Or.inl rfl,rfl,rfl⟩
 | false =>
  have hr:=firstFree_range _ hf
  have hl:=h.d.bb
  simp only [cond_false]
  rw [mark_eq]
  exact ⟨(h.disk (h.d.setBits (bb:=m.Disk.Bits.Blocks.set (firstFree m.Disk.Bits.Blocks-1).toNat true) (bi:=m.Disk.Bits.Inos) (List.length_set.trans h.d.bb) h.d.bi)).mark 0,rfl,rfl,Or.inr ⟨hr.1,by omega⟩,rfl,rfl⟩
theorem takeIno_spec {m:Mem} (h:MemT m):MemT (takeIno m).1/\(takeIno m).1.Next=m.Next/\(takeIno m).1.Deps=m.Deps/\((takeIno m).2==0\/(1<=(takeIno m).2/\(takeIno m).2<=8))/\(takeIno m).1.Disk.Inodes=m.Disk.Inodes/\(takeIno m).1.Disk.Blocks=m.Disk.Blocks:=by
 simp only [takeIno]
 cases hf:firstFree m.Disk.Bits.Inos==0 with
 | true=>exact ⟨h,rfl,rfl,Or.inl rfl,rfl,rfl⟩
 | false =>
  have hr:=firstFree_range _ hf
  have hl:=h.d.bi
  simp only [cond_false]
  rw [mark_eq]
  exact ⟨(h.disk (h.d.setBits (bb:=m.Disk.Bits.Blocks) (bi:=m.Disk.Bits.Inos.set (firstFree m.Disk.Bits.Inos-1).toNat true) h.d.bb (List.length_set.trans h.d.bi))).mark 0,rfl,rfl,Or.inr ⟨hr.1,by omega⟩,rfl,rfl⟩
def firstZero (l:List Int):Nat:=(l.takeWhile fun p=> !(p==0)).length
theorem firstZero_le (l:List Int):firstZero l<=l.length:=by
 induction l with
 | nil=>exact Nat.le_refl _
 | cons a l ih =>
  simp only [firstZero] at ih ⊢
  rw [List.takeWhile_cons]
  cases !(a==0) with
  | false=>simp
  | true=>simp only [if_true,List.length_cons]; omega
theorem put_l16 (v:Nat) (di:List Inode) (hl:(di.getD v dInode).Ptrs.length<=2097152) (q:Int->Option R) :
  ∀ (r:List Int) (j m:Nat),r=(di.getD v dInode).Ptrs.drop j->j<=(di.getD v dInode).Ptrs.length->r.length<m->s_l12Put_l16 v di q m (j:Int)=q ((j+firstZero r:Nat):Int):=by
 intro r
 induction r with
 | nil =>
  intro j m hr hj hm
  cases m with
  | zero=>omega
  | succ m =>
   have hlen:=congrArg List.length hr
   rw [List.length_nil,List.length_drop] at hlen
   have:¬ j<(di.getD v dInode).Ptrs.length:=by omega
   simp only [s_l12Put_l16,lt_nat,this,decide_false,Bool.not_false,Bool.true_or,chk_t,Bool.false_and,cond_false]
   rfl
 | cons a r ih =>
  intro j m hr hj hm
  cases m with
  | zero=>omega
  | succ m =>
   have hlen:=congrArg List.length hr
   rw [List.length_cons,List.length_drop] at hlen
   have hlt:j<(di.getD v dInode).Ptrs.length:=by omega
   rw [drop_getD 0 hlt,List.cons.injEq] at hr
   simp only [s_l12Put_l16,lt_nat,inR_nat,hlt,decide_true,Bool.not_true,Bool.false_or,chk_t,Bool.true_and,Int.toNat_natCast]
   rw [← hr.1,w64_suc (by omega)]
   simp only [firstZero]
   rw [List.takeWhile_cons]
   cases hc: !(a==0) with
   | false=>rfl
   | true =>
    simp only [cond_true,if_true,List.length_cons]
    rw [ih (j+1) m hr.2 (by omega) (by simp only [List.length_cons] at hm; omega)]
    simp only [firstZero]
    congr 1
    omega
def ptrSet (x:Inode) (i:Nat) (p:Int):Inode:=⟨x.Kind,x.Links,x.Ptrs.set i p⟩
def slotSet (b:Block) (s:Nat) (x:Slot):Block:=⟨b.Dir,b.Slots.set s x,b.Text⟩
def setName (m:Mem) (p s:Int) (name:ByteArray) (ino:Int):Mem×Int :=
 putDep ⟨blkSet m.Disk p (slotSet (blkAt m.Disk p) s.toNat ⟨name,ino⟩),markD 0 (markD (unitOfBlock p) m.Dirty),m.Deps,m.Next⟩ ⟨0,2,ino,0,p,s,eS,false,false,0,[]⟩
def growDir (m:Mem) (dir:Int) (x:Nat) (r:Int):Mem :=
 (putDep ⟨inoSet (blkSet m.Disk r ⟨true,List.replicate 4 dSlot,eS⟩) dir (ptrSet (inoAt m.Disk dir) x r),markD (unitOfIno dir) (markD (unitOfBlock r) m.Dirty),m.Deps,m.Next⟩ ⟨0,1,dir,x,r,0,eS,false,false,0,[]⟩).1
def putName (m:Mem) (dir:Int) (name:ByteArray) (ino:Int):Mem×Int :=
 bif (putAt m (inoAt m.Disk dir).Ptrs).1==0 then
  bif firstZero (inoAt m.Disk dir).Ptrs==(inoAt m.Disk dir).Ptrs.length then (m,0) else
  bif (takeBlock m).2==0 then (m,0) else
  setName (growDir (takeBlock m).1 dir (firstZero (inoAt m.Disk dir).Ptrs) (takeBlock m).2) (takeBlock m).2 0 name ino
 else setName m (putAt m (inoAt m.Disk dir).Ptrs).1 (putAt m (inoAt m.Disk dir).Ptrs).2 name ino
theorem putDep_id {m:Mem} (h:1<=m.Next) (d:Dep):0<=(putDep m d).2/\(putDep m d).2<=(putDep m d).1.Next-1/\m.Next<=(putDep m d).1.Next:=by
 simp only [putDep]
 cases mayPut m with
 | false=>simp only [cond_false]; omega
 | true=>simp only [cond_true]; omega
theorem MemT.setName {m:Mem} (h:MemT m) {p s ino:Int} {name:ByteArray} (p1:1<=p) (p2:p<=16) (hd:(blkAt m.Disk p).Dir=true) (s0:0<=s) (s1:s<=3) (hs:nameOk name=true) (i1:1<=ino) (i2:ino<=8) :
  MemT (Soft.setName m p s name ino).1:=by
 have hb:blockS (slotSet (blkAt m.Disk p) s.toNat ⟨name,ino⟩)=true:=blockS_set (h.d.blkR p1 p2) hd _ (by
  simp only [slotS,Bool.or_eq_true,Bool.and_eq_true,within_iff]
  exact Or.inr ⟨hs,i1,i2⟩)
 have h1:=((h.disk (h.d.setBlk p hb)).mark (unitOfBlock p)).mark 0
 have n1:=h.n1
 refine h1.put _ ?_ rfl ⟨by show eS.size<=LEN; decide,Nat.zero_le _⟩
 simp only [depNums,Bool.and_eq_true,within_iff]
 refine ⟨⟨by omega,by omega⟩,⟨by decide,by decide⟩,⟨i1,i2⟩,⟨by decide,by decide⟩,⟨by omega,p2⟩,⟨s0,s1⟩,by decide,by omega⟩
theorem inodeOk_set {x:Inode} (h:inodeOk x=true) (hk:x.Kind≠0) (i:Nat) {p:Int} (p1:0<=p) (p2:p<=16):inodeOk (ptrSet x i p)=true:=by
 have hb:(x.Kind != 0)=true:=by simpa using hk
 simp only [inodeOk,ptrSet,Bool.and_eq_true,within_iff,List.length_set,List.all_eq_true] at h ⊢
 refine ⟨h.1,h.2.1,h.2.2.1,fun y hy=> ?_,h.2.2.2.2⟩
 rcases mem_set hy with hy | rfl
 ·exact h.2.2.2.1 y hy
 ·exact ⟨⟨p1,p2⟩,by rw [hb]; rfl⟩
theorem blkAt_self {d:Disk} (h:d.Blocks.length=16) {p:Int} (p1:1<=p) (p2:p<=16) (b:Block):blkAt (blkSet d p b) p=b:=by
 have:=blkAt_set (d:=d) (l:=d.Blocks) (i:=p) (j:=p) (x:=b) p1 (by omega) p1
 rw [beq_self_eq_true,cond_true] at this
 exact this
theorem MemT.growDir {m:Mem} (h:MemT m) {dir r:Int} {x:Nat} (d1:1<=dir) (d2:dir<=8) (hk:(inoAt m.Disk dir).Kind≠0) (hx:x<=1) (r1:1<=r) (r2:r<=16) :
  MemT (Soft.growDir m dir x r)/\blkAt (Soft.growDir m dir x r).Disk r=⟨true,List.replicate 4 dSlot,eS⟩:=by
 have hb:blockS ⟨true,List.replicate 4 dSlot,eS⟩=true:=by decide
 have h1:=(((h.disk ((h.d.setBlk r hb).setIno dir (inodeOk_set (h.d.inoR d1 d2) hk x (by omega:(0:Int)<=r) r2))).mark (unitOfBlock r)).mark (unitOfIno dir))
 have n1:=h.n1
 constructor
 ·refine h1.put _ ?_ rfl ⟨by show eS.size<=LEN; decide,Nat.zero_le _⟩
  simp only [depNums,Bool.and_eq_true,within_iff]
  refine ⟨⟨by omega,by omega⟩,⟨by decide,by decide⟩,⟨d1,d2⟩,⟨by omega,by omega⟩,⟨by omega,r2⟩,⟨by decide,by decide⟩,by decide,by omega⟩
 ·simp only [Soft.growDir]
  rw [putDep_disk]
  exact blkAt_self h.d.db r1 r2 _
theorem l12Put_eq {n:Nat} (hn:FUEL<=n) (m:Mem) (h:MemT m) {dir ino:Int} (d1:1<=dir) (d2:dir<=8) (hk:(inoAt m.Disk dir).Kind≠0) {name:ByteArray} (hs:nameOk name=true) (i1:1<=ino) (i2:ino<=8) (k:Int->Mem->Option R) :
  s_l12Put n dir name ino m k=k (putName m dir name ino).2 (putName m dir name ino).1:=by
 have hdi:=h.d.di
 have hdb:=h.d.db
 have hpl:=h.d.ptrs d1 d2
 have e0:m.Disk.Inodes.getD (dir-1).toNat dInode=inoAt m.Disk dir:=rfl
 simp only [s_l12Put]
 rw [w64_pred (by omega) (by omega),chk_of (inR_pred d1 (by omega)),put_l5 hn m h.szm _ (by rw [e0,hpl]; decide),e0]
 simp only [putName]
 have last:∀ (m:Mem) (h:MemT m) (p s:Int) (p1:1<=p) (p2:p<=16) (hd:(blkAt m.Disk p).Dir=true) (s0:0<=s) (s1:s<=3),
   (chk (inR (p-1) m.Disk.Blocks.length)<|chk (inR s (((m.Disk.Blocks.getD (p-1).toNat dBlock).Slots).length)) <|
    s_UnitOfBlock p fun r_6 =>
    s_l08Mark r_6 ⟨⟨m.Disk.Bits,m.Disk.Inodes,m.Disk.Blocks.set (p-1).toNat ⟨(m.Disk.Blocks.getD (p-1).toNat dBlock).Dir,((m.Disk.Blocks.getD (p-1).toNat dBlock).Slots).set s.toNat ⟨name,ino⟩,(m.Disk.Blocks.getD (p-1).toNat dBlock).Text⟩⟩,m.Dirty,m.Deps,m.Next⟩ fun mo_4 =>
    s_l08Mark 0 ⟨⟨m.Disk.Bits,m.Disk.Inodes,m.Disk.Blocks.set (p-1).toNat ⟨(m.Disk.Blocks.getD (p-1).toNat dBlock).Dir,((m.Disk.Blocks.getD (p-1).toNat dBlock).Slots).set s.toNat ⟨name,ino⟩,(m.Disk.Blocks.getD (p-1).toNat dBlock).Text⟩⟩,mo_4.Dirty,m.Deps,mo_4.Next⟩ fun mo_5 =>
    s_PutDep n ⟨⟨m.Disk.Bits,m.Disk.Inodes,m.Disk.Blocks.set (p-1).toNat ⟨(m.Disk.Blocks.getD (p-1).toNat dBlock).Dir,((m.Disk.Blocks.getD (p-1).toNat dBlock).Slots).set s.toNat ⟨name,ino⟩,(m.Disk.Blocks.getD (p-1).toNat dBlock).Text⟩⟩,mo_5.Dirty,m.Deps,mo_5.Next⟩ ⟨0,2,ino,0,p,s,eS,false,false,0,[]⟩ fun xm_4 r_7 =>
    k r_7 xm_4)=k (setName m p s name ino).2 (setName m p s name ino).1:=by
  intro m h p s p1 p2 hd s0 s1
  have hdb:=h.d.db
  have e1:m.Disk.Blocks.getD (p-1).toNat dBlock=blkAt m.Disk p:=rfl
  have hb:blockS (slotSet (blkAt m.Disk p) s.toNat ⟨name,ino⟩)=true:=blockS_set (h.d.blkR p1 p2) hd _ (by
   simp only [slotS,Bool.or_eq_true,Bool.and_eq_true,within_iff]
   exact Or.inr ⟨hs,i1,i2⟩)
  rw [chk_of (inR_pred p1 (by omega)),e1,chk_of (by rw [blockS_len (h.d.blkR p1 p2) hd]; simp only [inR,Bool.and_eq_true,decide_eq_true_eq]; omega),UnitOfBlock_eq,l08Mark_eq,mark_mk,l08Mark_eq,mark_mk]
  refine (PutDep_eq hn _ (((h.disk (h.d.setBlk p hb)).mark (unitOfBlock p)).mark 0).szm _ (Nat.zero_le _) _).trans ?_
  rfl
 rcases putAt_ok m (inoAt m.Disk dir).Ptrs with e | f
 ·rw [e]
  simp only [beq_self_eq_true,cond_true]
  have h16:=put_l16 (R:=R) (dir-1).toNat m.Disk.Inodes (by rw [e0,hpl]; decide)
  rw [e0] at h16
  refine (h16 _ (inoAt m.Disk dir).Ptrs 0 n rfl (Nat.zero_le _) (by rw [hpl]; exact fuel_lt hn (by decide))).trans ?_
  rw [Nat.zero_add,int_beq]
  have hz:=firstZero_le (inoAt m.Disk dir).Ptrs
  cases hc:firstZero (inoAt m.Disk dir).Ptrs==(inoAt m.Disk dir).Ptrs.length with
  | true=>rfl
  | false =>
   have hlt:firstZero (inoAt m.Disk dir).Ptrs<2:=by
    have:¬ firstZero (inoAt m.Disk dir).Ptrs=(inoAt m.Disk dir).Ptrs.length:=by simpa using hc
    omega
   simp only [cond_false]
   rw [TakeBlock_eq hn m h.szm]
   obtain ⟨t,t1,t2,t3,t4,t5⟩:=takeBlock_spec h
   cases hr:(takeBlock m).2==0 with
   | true=>rfl
   | false =>
    have hr':1<=(takeBlock m).2/\(takeBlock m).2<=16:=t3.resolve_left (by rw [hr]; decide)
    have hki:inoAt (takeBlock m).1.Disk dir=inoAt m.Disk dir:=by simp only [inoAt,t4]
    have hkk:(inoAt (takeBlock m).1.Disk dir).Kind≠0:=by rw [hki]; exact hk
    obtain ⟨g,gb⟩:=t.growDir (x:=firstZero (inoAt m.Disk dir).Ptrs) d1 d2 hkk (by omega) hr'.1 hr'.2
    generalize takeBlock m=tb at *
    simp only [cond_false]
    rw [DirNew_eq,w64_pred (by omega) (by omega),chk_of (inR_pred hr'.1 (by rw [t.d.db]; exact hr'.2)),chk_of (inR_pred d1 (by rw [t.d.di]; exact d2))]
    have e2:tb.1.Disk.Inodes.getD (dir-1).toNat dInode=inoAt tb.1.Disk dir:=rfl
    rw [e2,chk_of (by rw [t.d.ptrs d1 d2]; simp only [inR,Bool.and_eq_true,decide_eq_true_eq]; omega),UnitOfBlock_eq,l08Mark_eq,mark_mk,UnitOfIno_eq,l08Mark_eq,mark_mk,Int.toNat_natCast]
    have hb:blockS ⟨true,List.replicate 4 dSlot,eS⟩=true:=by decide
    have h1:=(((t.disk ((t.d.setBlk tb.2 hb).setIno dir (inodeOk_set (t.d.inoR d1 d2) hkk (firstZero (inoAt m.Disk dir).Ptrs) (by omega:(0:Int)<=tb.2) hr'.2))).mark (unitOfBlock tb.2)).mark (unitOfIno dir))
    refine (PutDep_eq hn _ h1.szm _ (Nat.zero_le _) _).trans ?_
    exact last (growDir tb.1 dir (firstZero (inoAt m.Disk dir).Ptrs) tb.2) g tb.2 0 hr'.1 hr'.2 (by rw [gb]) (by decide) (by decide)
 ·generalize putAt m (inoAt m.Disk dir).Ptrs=a at f
  have hne:(a.1==0)=false:=by have:=f.p1; simp; omega
  have p2:=f.p2
  have s1:=f.s1
  rw [hdb] at p2
  rw [blockS_len (h.d.blkR f.p1 p2) f.dir] at s1
  simp only [hne,cond_false]
  have p1:=f.p1
  rw [w64_pred (by omega) (by omega)]
  exact last m h a.1 a.2 f.p1 p2 f.dir f.s0 (by omega)
theorem setName_id {m:Mem} (h:1<=m.Next) (p s:Int) (name:ByteArray) (ino:Int):0<=(setName m p s name ino).2/\(setName m p s name ino).2<=(setName m p s name ino).1.Next-1/\m.Next<=(setName m p s name ino).1.Next :=
 putDep_id (m:=⟨blkSet m.Disk p (slotSet (blkAt m.Disk p) s.toNat ⟨name,ino⟩),markD 0 (markD (unitOfBlock p) m.Dirty),m.Deps,m.Next⟩) h ⟨0,2,ino,0,p,s,eS,false,false,0,[]⟩
theorem growDir_next {m:Mem} (h:1<=m.Next) (dir:Int) (x:Nat) (r:Int):m.Next<=(growDir m dir x r).Next :=
 (putDep_id (m:=⟨inoSet (blkSet m.Disk r ⟨true,List.replicate 4 dSlot,eS⟩) dir (ptrSet (inoAt m.Disk dir) x r),markD (unitOfIno dir) (markD (unitOfBlock r) m.Dirty),m.Deps,m.Next⟩) h ⟨0,1,dir,x,r,0,eS,false,false,0,[]⟩).2.2
theorem MemT.putName {m:Mem} (h:MemT m) {dir ino:Int} (d1:1<=dir) (d2:dir<=8) (hk:(inoAt m.Disk dir).Kind≠0) {name:ByteArray} (hs:nameOk name=true) (i1:1<=ino) (i2:ino<=8) :
  MemT (Soft.putName m dir name ino).1/\0<=(Soft.putName m dir name ino).2/\(Soft.putName m dir name ino).2<=(Soft.putName m dir name ino).1.Next-1/\m.Next<=(Soft.putName m dir name ino).1.Next:=by
 have hdb:=h.d.db
 have hpl:=h.d.ptrs d1 d2
 have n1:=h.n1
 simp only [Soft.putName]
 rcases putAt_ok m (inoAt m.Disk dir).Ptrs with e | f
 ·rw [e]
  simp only [beq_self_eq_true,cond_true]
  have hz:=firstZero_le (inoAt m.Disk dir).Ptrs
  cases hc:firstZero (inoAt m.Disk dir).Ptrs==(inoAt m.Disk dir).Ptrs.length with
  | true=>exact ⟨h,Int.le_refl 0,by simp only [cond_true]; omega,Int.le_refl _⟩
  | false =>
   have hlt:firstZero (inoAt m.Disk dir).Ptrs<2:=by
    have:¬ firstZero (inoAt m.Disk dir).Ptrs=(inoAt m.Disk dir).Ptrs.length:=by simpa using hc
    omega
   simp only [cond_false]
   obtain ⟨t,t1,t2,t3,t4,t5⟩:=takeBlock_spec h
   cases hr:(takeBlock m).2==0 with
   | true=>exact ⟨h,Int.le_refl 0,by simp only [cond_true]; omega,Int.le_refl _⟩
   | false =>
    have hr':1<=(takeBlock m).2/\(takeBlock m).2<=16:=t3.resolve_left (by rw [hr]; decide)
    have hki:inoAt (takeBlock m).1.Disk dir=inoAt m.Disk dir:=by simp only [inoAt,t4]
    have hkk:(inoAt (takeBlock m).1.Disk dir).Kind≠0:=by rw [hki]; exact hk
    obtain ⟨g,gb⟩:=t.growDir (x:=firstZero (inoAt m.Disk dir).Ptrs) d1 d2 hkk (by omega) hr'.1 hr'.2
    have gn:(takeBlock m).1.Next<=(Soft.growDir (takeBlock m).1 dir (firstZero (inoAt m.Disk dir).Ptrs) (takeBlock m).2).Next:=growDir_next t.n1 _ _ _
    have si:=setName_id g.n1 (takeBlock m).2 0 name ino
    exact ⟨g.setName hr'.1 hr'.2 (by rw [gb]) (by decide) (by decide) hs i1 i2,si.1,si.2.1,by simp only [cond_false]; omega⟩
 ·generalize putAt m (inoAt m.Disk dir).Ptrs=a at f
  have hne:(a.1==0)=false:=by have:=f.p1; simp; omega
  have p2:=f.p2
  have s1:=f.s1
  rw [hdb] at p2
  rw [blockS_len (h.d.blkR f.p1 p2) f.dir] at s1
  simp only [hne,cond_false]
  have si:=setName_id n1 a.1 a.2 name ino
  exact ⟨h.setName f.p1 p2 f.dir f.s0 (by omega) hs i1 i2,si.1,si.2.1,si.2.2⟩
def goneM (m:Mem) (p s:Int):Mem:=⟨blkSet m.Disk p (slotSet (blkAt m.Disk p) s.toNat ⟨eS,0⟩),markD (unitOfBlock p) m.Dirty,m.Deps,m.Next⟩
def slotAt (m:Mem) (p s:Int):Slot:=(blkAt m.Disk p).Slots.getD s.toNat dSlot
def nameGone (m:Mem) (p s «by»:Int):Mem :=
 bif (kindOf m (depAt m p s)==2)||(kindOf m (depAt m p s)==3) then lose (slotAt m p s).Ino (shown (depAt m p s) «by» (goneM m p s))
 else (putDep (goneM m p s) ⟨0,4,(slotAt m p s).Ino,0,p,s,(slotAt m p s).Name,false,false,«by»,[]⟩).1
theorem MemT.goneM {m:Mem} (h:MemT m) {p s:Int} (p1:1<=p) (p2:p<=16) (hd:(blkAt m.Disk p).Dir=true):MemT (Soft.goneM m p s) :=
 (h.disk (h.d.setBlk p (blockS_set (h.d.blkR p1 p2) hd s.toNat (s:=⟨eS,0⟩) (by decide)))).mark (unitOfBlock p)
theorem slotAt_ok {m:Mem} (h:MemT m) {p s:Int} (p1:1<=p) (p2:p<=16) (hd:(blkAt m.Disk p).Dir=true) (s0:0<=s) (s1:s<=3):slotS (slotAt m p s)=true :=
 blockS_slot (h.d.blkR p1 p2) hd (getD_mem dSlot (by rw [blockS_len (h.d.blkR p1 p2) hd]; omega))
theorem slotS_size {s:Slot} (h:slotS s=true):s.Name.size<=6:=by
 simp only [slotS,Bool.or_eq_true,Bool.and_eq_true,beq_iff_eq] at h
 rcases h with h | h
 ·rw [h.1]; decide
 ·exact (nameOk_size h.1).2
theorem MemT.nameGone {m:Mem} (h:MemT m) {p s b:Int} (p1:1<=p) (p2:p<=16) (hd:(blkAt m.Disk p).Dir=true) (s0:0<=s) (s1:s<=3) (hi:within (slotAt m p s).Ino 1 8=true) (b0:0<=b) (b1:b<=m.Next-1):MemT (Soft.nameGone m p s b):=by
 have g:=h.goneM (s:=s) p1 p2 hd
 have n1:=h.n1
 rw [within_iff] at hi
 simp only [Soft.nameGone]
 cases (kindOf m (depAt m p s)==2)||(kindOf m (depAt m p s)==3) with
 | true=>exact (g.shown _ _ b0 b1).lose hi.1 hi.2
 | false =>
  refine g.put _ ?_ rfl ⟨Nat.le_trans (slotS_size (slotAt_ok h p1 p2 hd s0 s1)) (by decide),Nat.zero_le _⟩
  have gn:(Soft.goneM m p s).Next=m.Next:=rfl
  simp only [depNums,Bool.and_eq_true,within_iff,gn]
  refine ⟨⟨by omega,by omega⟩,⟨by decide,by decide⟩,hi,⟨by decide,by decide⟩,⟨by omega,p2⟩,⟨s0,s1⟩,b0,by omega⟩
theorem l12Gone_eq {n:Nat} (hn:FUEL<=n) {m:Mem} (h:MemT m) {p s b:Int} (p1:1<=p) (p2:p<=16) (hd:(blkAt m.Disk p).Dir=true) (s0:0<=s) (s1:s<=3) (hi:within (slotAt m p s).Ino 1 8=true) (b0:0<=b) (b1:b<=m.Next-1) (k:Mem->Option R) :
  s_l12Gone n p s b m k=k (nameGone m p s b):=by
 have hdb:=h.d.db
 have g:=h.goneM (s:=s) p1 p2 hd
 have e1:m.Disk.Blocks.getD (p-1).toNat dBlock=blkAt m.Disk p:=rfl
 rw [within_iff] at hi
 simp only [s_l12Gone]
 rw [w64_pred (by omega) (by omega),chk_of (inR_pred p1 (by omega)),e1,chk_of (by rw [blockS_len (h.d.blkR p1 p2) hd]; simp only [inR,Bool.and_eq_true,decide_eq_true_eq]; omega),
  DepAt_eq hn m h.szm.dp,l12Kind_eq hn _ m h.szm.dp,chk_of (inR_pred p1 (by omega)),chk_of (by rw [blockS_len (h.d.blkR p1 p2) hd]; simp only [inR,Bool.and_eq_true,decide_eq_true_eq]; omega),UnitOfBlock_eq,l08Mark_eq,mark_mk]
 simp only [nameGone]
 cases hc:(kindOf m (depAt m p s)==2)||(kindOf m (depAt m p s)==3) with
 | true =>
  simp only [cond_true]
  have sh:=g.shown (depAt m p s) b b0 b1
  refine (l10Shown_eq hn (goneM m p s) g.szm (depAt m p s) b _).trans ?_
  have hl:within (inoAt (shown (depAt m p s) b (goneM m p s)).Disk (slotAt m p s).Ino).Links 0 200=true:=by
   have:=sh.d.inoR hi.1 hi.2
   simp only [inodeOk,Bool.and_eq_true] at this
   exact this.2.1
  refine (l10Lose_eq hn _ sh.szm (slotAt m p s).Ino hi.1 (by rw [sh.d.di]; exact hi.2) hl (by rw [sh.d.ptrs hi.1 hi.2]; decide) _).trans ?_
  rfl
 | false =>
  simp only [cond_false]
  refine (PutDep_eq hn (goneM m p s) g.szm _ (Nat.zero_le _) _).trans ?_
  rfl
theorem walkFrom_range (d:Disk):∀ (l:List ByteArray) (i:Int),(i=0\/(1<=i/\i<=d.Inodes.length))->(walkFrom d i l=0\/(1<=walkFrom d i l/\walkFrom d i l<=d.Inodes.length))
 | [],i,h=>h
 | x::l,i,h=>by
  simp only [walkFrom]
  cases hw:within (find d i x).2.2 1 d.Inodes.length with
  | false=>exact .inl rfl
  | true=>exact walkFrom_range d l _ (.inr (within_iff.1 hw))
theorem walkPath_range {d:Disk} (h:d.Inodes.length=8) (p:ByteArray):walkPath d p=0\/(1<=walkPath d p/\walkPath d p<=8):=by
 simp only [walkPath]
 cases (splitPath p).2 with
 | false=>exact .inl rfl
 | true =>
  have:=walkFrom_range d (splitPath p).1 1 (.inr ⟨by omega,by omega⟩)
  rw [h] at this
  exact this
theorem splitDir_spec (p:ByteArray):(splitDir p).1.size<=LEN/\(splitDir p).2.1.size<=LEN/\((splitDir p).2.2=true->nameOk (splitDir p).2.1=true):=by
 simp only [splitDir]
 cases hc: !(splitPath p).2||(splitPath p).1.length==0 with
 | true=>exact ⟨by show eS.size<=LEN; decide,by show eS.size<=LEN; decide,fun h=>by cases h⟩
 | false =>
  rw [Bool.or_eq_false_iff] at hc
  have hl:¬ (splitPath p).1.length=0:=by simpa using hc.2
  rcases splitPath_cases p with e | e | ⟨_,e,l4⟩
  ·rw [e] at hl; exact absurd rfl hl
  ·rw [e] at hl; exact absurd rfl hl
  ·have hdl:∀ x∈(splitPath p).1.dropLast,x∈(splitPath p).1:=fun x hx=>(List.dropLast_sublist _).subset hx
   have hm:nameOk ((splitPath p).1.getD ((splitPath p).1.length-1) eS)=true:=List.all_eq_true.1 e _ (getD_mem eS (by omega))
   have hd:∀ x∈(splitPath p).1.dropLast,x.size<=6:=fun x hx=>(nameOk_size (List.all_eq_true.1 e x (hdl x hx))).2
   have hj:(joinPath (splitPath p).1.dropLast).size<=LEN:=by
    have:=joinPath_size _ eS hd
    have l:(splitPath p).1.dropLast.length=(splitPath p).1.length-1:=List.length_dropLast
    have e0:eS.size=0:=rfl
    exact Nat.le_trans this (by rw [l,e0]; show _<=2097152; omega)
   refine ⟨?_,Nat.le_trans (nameOk_size hm).2 (by decide),fun _=>hm⟩
   simp only [cond_false]
   cases joinPath (splitPath p).1.dropLast==eS with
   | true=>show (S [47]).size<=LEN; decide
   | false=>exact hj
theorem MemR.t {m:Mem} (h:MemR m) (hs:SzMem m):MemT m:=⟨h.d.t,h.dy,h.dp,h.n1,h.n2,h.num,h.bs,hs.dep⟩
def room (m:Mem):Bool:=decide ((m.Deps.length:Int)<=32)&&decide (m.Next<=99000)
def layIno (t:Mem×Int) (kind:Int):Mem:=⟨inoSet t.1.Disk t.2 (inodeNew kind),markD (unitOfIno t.2) t.1.Dirty,t.1.Deps,t.1.Next⟩
def makeNode (m:Mem) (p:ByteArray) (kind:Int):Mem×Int :=
 bif ((!memOk m)||(!(splitDir p).2.2))||((!(kind==1))&&(!(kind==2))) then (m,6) else
 bif !(walkPath m.Disk p==0) then (m,2) else
 bif walkPath m.Disk (splitDir p).1==0 then (m,1) else
 bif !((inoAt m.Disk (walkPath m.Disk (splitDir p).1)).Kind==2) then (m,3) else
 bif waits m (walkPath m.Disk (splitDir p).1) (splitDir p).2.1 then (m,5) else
 bif ((takeIno m).2==0)||(!room (takeIno m).1) then (m,4) else
 bif (putName (layIno (takeIno m) kind) (walkPath m.Disk (splitDir p).1) (splitDir p).2.1 (takeIno m).2).2==0 then (m,4) else
 ((putName (layIno (takeIno m) kind) (walkPath m.Disk (splitDir p).1) (splitDir p).2.1 (takeIno m).2).1,0)
theorem inodeNew_ok {kind:Int} (h:kind=1\/kind=2):inodeOk (inodeNew kind)=true:=by
 rcases h with rfl | rfl<;>decide
theorem MakeNode_eq {n:Nat} (hn:FUEL<=n) (m:Mem) (hm:SzMem m) (p:ByteArray) (hp:p.size<=LEN) (kind:Int) (k:Mem->Int->Option R) :
  s_MakeNode n m p kind k=k (makeNode m p kind).1 (makeNode m p kind).2/\((makeNode m p kind).1=m\/(memOk m=true/\MemT (makeNode m p kind).1)):=by
 obtain ⟨q1,q2,q3⟩:=splitDir_spec p
 simp only [s_MakeNode,makeNode]
 rw [l08Copy_eq hn m hm,l12Split_eq hn p hp,MemOk_eq hn m hm]
 cases hc:((!memOk m)||(!(splitDir p).2.2))||((!(kind==1))&&(!(kind==2))) with
 | true=>exact ⟨rfl,.inl rfl⟩
 | false =>
 simp only [Bool.or_eq_false_iff,Bool.not_eq_false'] at hc
 have hR:=memOk_iff.1 hc.1.1
 have hT:=hR.t hm
 have hname:=q3 hc.1.2
 have hkind:kind=1\/kind=2:=by
  have:=hc.2
  cases h1:kind==1 with
  | true=>exact .inl (by simpa using h1)
  | false =>
   cases h2:kind==2 with
   | true=>exact .inr (by simpa using h2)
   | false=>rw [h1,h2] at this; cases this
 simp only [cond_false]
 rw [WalkPath_eq hn _ hm.d p hp]
 cases h2: !(walkPath m.Disk p==0) with
 | true=>exact ⟨rfl,.inl rfl⟩
 | false =>
 simp only [cond_false]
 rw [WalkPath_eq hn _ hm.d _ q1]
 cases h3:walkPath m.Disk (splitDir p).1==0 with
 | true=>exact ⟨rfl,.inl rfl⟩
 | false =>
 have hw:=(walkPath_range hT.d.di (splitDir p).1).resolve_left (by simpa using h3)
 generalize walkPath m.Disk (splitDir p).1=w at hw ⊢
 have hdi:=hT.d.di
 simp only [cond_false]
 rw [w64_pred (by omega) (by omega),chk_of (inR_pred hw.1 (by omega)),show m.Disk.Inodes.getD (w-1).toNat dInode=inoAt m.Disk w from rfl]
 cases h4: !((inoAt m.Disk w).Kind==2) with
 | true=>exact ⟨rfl,.inl rfl⟩
 | false =>
 have hk2:(inoAt m.Disk w).Kind=2:=by simpa using h4
 simp only [cond_false]
 rw [l12Waits_eq hn m hm.dp hm.d.di w hw.1 (by omega) (by rw [hT.d.ptrs hw.1 hw.2]; decide)]
 cases h5:waits m w (splitDir p).2.1 with
 | true=>exact ⟨rfl,.inl rfl⟩
 | false =>
 simp only [cond_false]
 rw [TakeIno_eq hn m hm]
 obtain ⟨t,t1,t2,t3,t4,t5⟩:=takeIno_spec hT
 simp only [s_l12Room]
 cases h6:(takeIno m).2==0 with
 | true=>exact ⟨rfl,.inl rfl⟩
 | false =>
 have hi:=t3.resolve_left (by rw [h6]; decide)
 generalize takeIno m=tk at *
 simp only [Bool.not_false,cond_true,Bool.false_or]
 cases h7: !room tk.1 with
 | true =>
  have h7':(!(decide ((tk.1.Deps.length:Int)<=32)&&decide (tk.1.Next<=99000)))=true:=h7
  rw [h7']
  exact ⟨rfl,.inl rfl⟩
 | false =>
 have h7':(!(decide ((tk.1.Deps.length:Int)<=32)&&decide (tk.1.Next<=99000)))=false:=h7
 rw [h7']
 simp only [cond_false]
 rw [InodeNew_eq,w64_pred (by omega) (by omega),chk_of (inR_pred hi.1 (by rw [t.d.di]; exact hi.2)),UnitOfIno_eq,l08Mark_eq,mark_mk]
 have hL:MemT (layIno tk kind):=(t.disk (t.d.setIno tk.2 (inodeNew_ok hkind))).mark (unitOfIno tk.2)
 have hkk:(inoAt (layIno tk kind).Disk w).Kind≠0:=by
  have:=inoAt_set (d:=tk.1.Disk) (l:=tk.1.Disk.Inodes) (i:=tk.2) (j:=w) (x:=inodeNew kind) hi.1 (by rw [t.d.di]; exact hi.2) hw.1
  show (inoAt { tk.1.Disk with Inodes:=tk.1.Disk.Inodes.set (tk.2-1).toNat (inodeNew kind) } w).Kind≠0
  rw [this]
  cases w==tk.2 with
  | true=>show kind≠0; rcases hkind with rfl | rfl<;>decide
  | false =>
   show (tk.1.Disk.Inodes.getD (w-1).toNat dInode).Kind≠0
   rw [t4]
   show (inoAt m.Disk w).Kind≠0
   rw [hk2]; decide
 have hput:=l12Put_eq (R:=R) hn (layIno tk kind) hL hw.1 hw.2 hkk hname hi.1 hi.2
 have hres:=hL.putName hw.1 hw.2 hkk hname hi.1 hi.2
 constructor
 ·refine (hput _).trans ?_
  cases (putName (layIno tk kind) w (splitDir p).2.1 tk.2).2==0<;>rfl
 ·cases (putName (layIno tk kind) w (splitDir p).2.1 tk.2).2==0 with
  | true=>exact .inl rfl
  | false=>exact .inr ⟨hc.1.1,hres.1⟩
def layText (m:Mem) (r:Int) (s:ByteArray):Mem:=⟨blkSet m.Disk r ⟨false,[],s⟩,markD (unitOfBlock r) m.Dirty,m.Deps,m.Next⟩
def growText (t:Mem×Int) (w x:Int):Mem :=
 (putDep ⟨inoSet t.1.Disk w (ptrSet (inoAt t.1.Disk w) x.toNat t.2),markD (unitOfIno w) t.1.Dirty,t.1.Deps,t.1.Next⟩ ⟨0,1,w,x,t.2,0,eS,false,false,0,[]⟩).1
def writeText (m:Mem) (p:ByteArray) (x:Int) (s:ByteArray):Mem×Int :=
 bif (((!memOk m)||(!(splitPath p).2))||(!within x 0 1))||(decide (16<(s.size:Int))) then (m,6) else
 bif walkPath m.Disk p==0 then (m,1) else
 bif !((inoAt m.Disk (walkPath m.Disk p)).Kind==1) then (m,3) else
 bif (inoAt m.Disk (walkPath m.Disk p)).Ptrs.getD x.toNat 0==0 then
  bif ((takeBlock m).2==0)||(!room m) then (m,4) else (layText (growText (takeBlock m) (walkPath m.Disk p) x) (takeBlock m).2 s,0)
 else (layText m ((inoAt m.Disk (walkPath m.Disk p)).Ptrs.getD x.toNat 0) s,0)
theorem MemT.layText {m:Mem} (h:MemT m) (r:Int) {s:ByteArray} (hs:s.size<=16):MemT (Soft.layText m r s) :=
 (h.disk (h.d.setBlk r (b:=⟨false,[],s⟩) (by simpa [blockS] using hs))).mark (unitOfBlock r)
theorem WriteText_eq {n:Nat} (hn:FUEL<=n) (m:Mem) (hm:SzMem m) (p:ByteArray) (hp:p.size<=LEN) (x:Int) (s:ByteArray) (k:Mem->Int->Option R) :
  s_WriteText n m p x s k=k (writeText m p x s).1 (writeText m p x s).2/\((writeText m p x s).1=m\/(memOk m=true/\MemT (writeText m p x s).1)):=by
 simp only [s_WriteText,writeText]
 rw [l08Copy_eq hn m hm,SplitPath_eq hn p hp,MemOk_eq hn m hm,In_eq]
 cases ha:memOk m with
 | false=>exact ⟨rfl,.inl rfl⟩
 | true =>
 cases hb:(splitPath p).2 with
 | false=>exact ⟨rfl,.inl rfl⟩
 | true =>
 cases hx:within x 0 1 with
 | false=>exact ⟨rfl,.inl rfl⟩
 | true =>
 cases hs:decide (16<(s.size:Int)) with
 | true=>exact ⟨rfl,.inl rfl⟩
 | false =>
 have hR:=memOk_iff.1 ha
 have hT:=hR.t hm
 have hs':s.size<=16:=by have:=of_decide_eq_false hs; omega
 rw [within_iff] at hx
 simp only [Bool.not_true,Bool.not_false,Bool.or_false,cond_true,cond_false]
 rw [WalkPath_eq hn _ hm.d p hp]
 cases h3:walkPath m.Disk p==0 with
 | true=>exact ⟨rfl,.inl rfl⟩
 | false =>
 have hw:=(walkPath_range hT.d.di p).resolve_left (by simpa using h3)
 generalize walkPath m.Disk p=w at hw ⊢
 have hdi:=hT.d.di
 simp only [cond_false]
 rw [w64_pred (by omega) (by omega),chk_of (inR_pred hw.1 (by omega)),show m.Disk.Inodes.getD (w-1).toNat dInode=inoAt m.Disk w from rfl]
 cases h4: !((inoAt m.Disk w).Kind==1) with
 | true=>exact ⟨rfl,.inl rfl⟩
 | false =>
 have hk1:(inoAt m.Disk w).Kind=1:=by simpa using h4
 have hix:inR x 2=true:=by simp only [inR,Bool.and_eq_true,decide_eq_true_eq]; omega
 simp only [cond_false]
 rw [l08Copy_eq hn m hm,chk_of (inR_pred hw.1 (by omega)),chk_of (by rw [hT.d.ptrs hw.1 hw.2]; exact hix)]
 cases h5:(inoAt m.Disk w).Ptrs.getD x.toNat 0==0 with
 | true =>
  simp only [cond_true]
  rw [TakeBlock_eq hn m hm]
  obtain ⟨t,t1,t2,t3,t4,t5⟩:=takeBlock_spec hT
  simp only [s_l12Room]
  cases h6:(takeBlock m).2==0 with
  | true=>exact ⟨rfl,.inl rfl⟩
  | false =>
  have hi:=t3.resolve_left (by rw [h6]; decide)
  generalize takeBlock m=tk at *
  simp only [Bool.not_false,cond_true,Bool.false_or]
  cases h7: !room m with
  | true =>
   have h7':(!(decide ((m.Deps.length:Int)<=32)&&decide (m.Next<=99000)))=true:=h7
   rw [h7']
   exact ⟨rfl,.inl rfl⟩
  | false =>
  have h7':(!(decide ((m.Deps.length:Int)<=32)&&decide (m.Next<=99000)))=false:=h7
  rw [h7']
  have hki:inoAt tk.1.Disk w=inoAt m.Disk w:=by simp only [inoAt,t4]
  have hkk:(inoAt tk.1.Disk w).Kind≠0:=by rw [hki,hk1]; decide
  have h1:=(t.disk (t.d.setIno w (inodeOk_set (t.d.inoR hw.1 hw.2) hkk x.toNat (by omega:(0:Int)<=tk.2) hi.2))).mark (unitOfIno w)
  have n1:=t.n1
  have hg:MemT (growText tk w x):=by
   refine h1.put _ ?_ rfl ⟨by show eS.size<=LEN; decide,Nat.zero_le _⟩
   simp only [depNums,Bool.and_eq_true,within_iff]
   refine ⟨⟨by omega,by omega⟩,⟨by decide,by decide⟩,hw,hx,⟨by omega,hi.2⟩,⟨by decide,by decide⟩,by decide,by omega⟩
  simp only [cond_false]
  refine ⟨?_,.inr ⟨by first | exact trivial | rfl,hg.layText tk.2 hs'⟩⟩
  have e2:tk.1.Disk.Inodes.getD (w-1).toNat dInode=inoAt tk.1.Disk w:=rfl
  rw [chk_of (inR_pred hw.1 (by rw [t.d.di]; exact hw.2)),e2,chk_of (by rw [t.d.ptrs hw.1 hw.2]; exact hix),UnitOfIno_eq,l08Mark_eq,mark_mk]
  refine (PutDep_eq hn _ h1.szm _ (Nat.zero_le _) _).trans ?_
  have hgb:(growText tk w x).Disk.Blocks.length=16:=hg.d.db
  have hgb':(putDep ⟨inoSet tk.1.Disk w (ptrSet (inoAt tk.1.Disk w) x.toNat tk.2),markD (unitOfIno w) tk.1.Dirty,tk.1.Deps,tk.1.Next⟩ ⟨0,1,w,x,tk.2,0,eS,false,false,0,[]⟩).1.Disk.Blocks.length=16:=hgb
  rw [w64_pred (by omega) (by omega),chk_of (inR_pred hi.1 (by rw [hgb']; exact hi.2)),UnitOfBlock_eq,l08Mark_eq,mark_mk]
  rfl
 | false =>
  simp only [cond_false]
  have hdb:=hT.d.db
  have hp2:1<=(inoAt m.Disk w).Ptrs.getD x.toNat 0/\(inoAt m.Disk w).Ptrs.getD x.toNat 0<=16:=by
   have hio:=hT.d.inoR hw.1 hw.2
   have hlen:=hT.d.ptrs hw.1 hw.2
   simp only [inodeOk,Bool.and_eq_true,List.all_eq_true,within_iff] at hio
   have:=(hio.2.2.2.1 _ (getD_mem 0 (l:=(inoAt m.Disk w).Ptrs) (i:=x.toNat) (by omega))).1
   have hne:¬ (inoAt m.Disk w).Ptrs.getD x.toNat 0=0:=by simpa using h5
   omega
  refine ⟨?_,.inr ⟨by first | exact trivial | rfl,hT.layText _ hs'⟩⟩
  generalize (inoAt m.Disk w).Ptrs.getD x.toNat 0=r at hp2 ⊢
  rw [w64_pred (by omega) (by omega),chk_of (inR_pred hp2.1 (by omega)),UnitOfBlock_eq,l08Mark_eq,mark_mk]
  rfl
theorem placeIn_P {α:Type} (P:α->Bool) (d:α):∀ (l:List α) (j:Nat),placeIn P l=(j:Int)->P (l.getD j d)=true
 | [],j,h=>by
  simp only [placeIn] at h
  omega
 | x::l,j,h=>by
  simp only [placeIn] at h
  cases hp:P x with
  | true =>
   simp only [hp,cond_true] at h
   have:j=0:=by omega
   subst this
   exact hp
  | false =>
   simp only [hp,cond_false] at h
   rcases placeIn_ge P l with e | ⟨j',e,hj⟩
   ·rw [e] at h
    have h':(-1:Int)=(j:Int):=h
    omega
   ·rw [e] at h
    have h':((j'+1:Nat):Int)=(j:Int):=h
    have:j=j'+1:=by omega
    subst this
    rw [List.getD_cons_succ]
    exact placeIn_P P d l j' e
structure Found (d:Disk) (p s ino:Int):Prop where
 p1:1<=p
 p2:p<=16
 dir:(blkAt d p).Dir=true
 s0:0<=s
 s1:s<=3
 eq:ino=((blkAt d p).Slots.getD s.toNat dSlot).Ino
 i1:1<=ino
 i2:ino<=8
theorem findIn_spec {d:Disk} (h:DiskT d) (name:ByteArray):∀ l:List Int,findIn d name l=(0,0,0)\/Found d (findIn d name l).1 (findIn d name l).2.1 (findIn d name l).2.2
 | []=> .inl rfl
 | p::l=>by
  simp only [findIn]
  cases hc:((block? d p).2&&(block? d p).1.Dir)&&decide (0<=slotOf (block? d p).1 name) with
  | false=>exact findIn_spec h name l
  | true =>
   rw [Bool.and_eq_true,Bool.and_eq_true,decide_eq_true_eq] at hc
   obtain ⟨⟨h1,h2⟩,h3⟩:=hc
   simp only [block?] at h1 h2 h3 ⊢
   cases hw:within p 1 d.Blocks.length with
   | false=>rw [hw] at h1; cases h1
   | true =>
    simp only [hw,cond_true] at h1 h2 h3 ⊢
    rw [within_iff,h.db] at hw
    have hlt:=slotOf_lt h3
    have h4:=blockS_len (h.blkR hw.1 hw.2) h2
    have hs:=blockS_slot (h.blkR hw.1 hw.2) h2 (getD_mem dSlot hlt)
    have hn:(((blkAt d p).Slots.getD (slotOf (blkAt d p) name).toNat dSlot).Name==name)=true/\¬ name=eS:=by
     have h3':=h3
     simp only [slotOf] at h3' ⊢
     cases he:name==eS with
     | true=>rw [he] at h3'; simp at h3'
     | false =>
      simp only [he,cond_false] at h3' ⊢
      have he':¬ name=eS:=by
       intro e; rw [e] at he; simp at he
      refine ⟨?_,he'⟩
      rcases placeIn_ge (fun s:Slot=>s.Name==name) (blkAt d p).Slots with e | ⟨j,e,hj⟩
      ·rw [e] at h3'; omega
      ·rw [e,Int.toNat_natCast]
       exact placeIn_P (fun s:Slot=>s.Name==name) dSlot _ j e
    have hin:1<=((blkAt d p).Slots.getD (slotOf (blkAt d p) name).toNat dSlot).Ino/\((blkAt d p).Slots.getD (slotOf (blkAt d p) name).toNat dSlot).Ino<=8:=by
     simp only [slotS,Bool.or_eq_true,Bool.and_eq_true,within_iff,beq_iff_eq] at hs
     rcases hs with hs | hs
     ·exact absurd ((beq_iff_eq.1 hn.1).symm.trans hs.1) hn.2
     ·exact hs.2
    exact .inr ⟨hw.1,hw.2,h2,h3,by show slotOf (blkAt d p) name<=3; omega,rfl,hin.1,hin.2⟩
theorem find_spec {d:Disk} (h:DiskT d) (i:Int) (name:ByteArray):find d i name=(0,0,0)\/Found d (find d i name).1 (find d i name).2.1 (find d i name).2.2:=by
 simp only [find]
 cases within i 1 d.Inodes.length&&(inoAt d i).Kind==2 with
 | false=>exact .inl rfl
 | true=>exact findIn_spec h name _
end Go.Soft
