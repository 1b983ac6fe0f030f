import Derived.Test.YthkhihfodaobkaaGreatGD
set_option linter.constructorNameAsVariable false
set_option linter.unusedVariables false
set_option linter.unusedSimpArgs false
namespace Go.Soft
open Go
variable {R:Type}
def removeFound (m:Mem) (f:Int×Int×Int):Mem×Int :=
 bif f.2.2==0 then (m,1) else
 bif ((decide (0<((namesOf m.Disk f.2.2).length:Int)))||(((inoAt m.Disk f.2.2).Kind==2)&&held m f.2.2))||(!room m) then (m,5) else
 (nameGone m f.1 f.2.1 0,0)
def removeNode (m:Mem) (p:ByteArray):Mem×Int :=
 bif (!memOk m)||(!(splitDir p).2.2) then (m,6) else removeFound m (find m.Disk (walkPath m.Disk (splitDir p).1) (splitDir p).2.1)
theorem RemoveNode_eq {n:Nat} (hn:FUEL<=n) (m:Mem) (hm:SzMem m) (p:ByteArray) (hp:p.size<=LEN) (k:Mem->Int->Option R) :
  s_RemoveNode n m p k=k (removeNode m p).1 (removeNode m p).2/\((removeNode m p).1=m\/(memOk m=true/\MemT (removeNode m p).1)):=by
 obtain ⟨q1,q2,q3⟩:=splitDir_spec p
 simp only [s_RemoveNode,removeNode]
 rw [l08Copy_eq hn m hm,l12Split_eq hn p hp,MemOk_eq hn m hm]
 cases hc:(!memOk m)||(!(splitDir p).2.2) with
 | true=>exact ⟨rfl,.inl rfl⟩
 | false =>
 simp only [Bool.or_eq_false_iff,Bool.not_eq_false'] at hc
 have hT:=(memOk_iff.1 hc.1).t hm
 have hdi:=hT.d.di
 simp only [cond_false]
 rw [WalkPath_eq hn _ hm.d _ q1,l11Find_eq hn _ hm.d]
 have hf:=find_spec hT.d (walkPath m.Disk (splitDir p).1) (splitDir p).2.1
 generalize find m.Disk (walkPath m.Disk (splitDir p).1) (splitDir p).2.1=f at hf ⊢
 simp only [removeFound]
 cases h1:f.2.2==0 with
 | true=>exact ⟨rfl,.inl rfl⟩
 | false =>
 have F:Found m.Disk f.1 f.2.1 f.2.2:=hf.resolve_left (by intro e; rw [e] at h1; cases h1)
 have i1:=F.i1
 have i2:=F.i2
 simp only [cond_false]
 rw [NamesOf_eq hn _ hm.d _ (fun x hx=>by rw [inodeOk_len (hT.d.ino x hx)]; exact Nat.le_refl 2) (fun b hb=>by
  have h:=hT.d.blk b hb
  cases hd:b.Dir with
  | true=>rw [blockS_len h hd]; exact Nat.le_refl 4
  | false =>
   simp only [blockS,hd,cond_false,Bool.and_eq_true,beq_iff_eq] at h
   omega)]
 rw [w64_pred (by omega) (by omega),chk_of (by rw [inR_pred i1 (by omega),Bool.or_true]),show m.Disk.Inodes.getD (f.2.2-1).toNat dInode=inoAt m.Disk f.2.2 from rfl,
  l12Held_eq hn m hm.dp hm.d.di f.2.2 i1 (by omega) (by rw [hT.d.ptrs i1 i2]; decide)]
 simp only [s_l12Room]
 have er:(decide ((m.Deps.length:Int)<=32)&&decide (m.Next<=99000))=room m:=rfl
 rw [er,l08Copy_eq hn m hm]
 have hg:∀ k:Mem->Option R,s_l12Gone n f.1 f.2.1 0 m k=k (nameGone m f.1 f.2.1 0):=fun k =>
  l12Gone_eq hn hT F.p1 F.p2 F.dir F.s0 F.s1 (by rw [within_iff]; have:=F.eq; show 1<=((blkAt m.Disk f.1).Slots.getD f.2.1.toNat dSlot).Ino/\_; exact ⟨this▸i1,this▸i2⟩) (Int.le_refl 0) (by have:=hT.n1; omega) k
 have ht:MemT (nameGone m f.1 f.2.1 0) :=
  hT.nameGone F.p1 F.p2 F.dir F.s0 F.s1 (by rw [within_iff]; have:=F.eq; show 1<=((blkAt m.Disk f.1).Slots.getD f.2.1.toNat dSlot).Ino/\_; exact ⟨this▸i1,this▸i2⟩) (Int.le_refl 0) (by have:=hT.n1; omega)
 rw [hg]
 cases hA:decide (0<((namesOf m.Disk f.2.2).length:Int))<;>cases hB:(inoAt m.Disk f.2.2).Kind==2<;>cases hC:held m f.2.2<;>cases hD:room m <;>
  first
   | exact ⟨rfl,.inl rfl⟩
   | exact ⟨rfl,.inr ⟨hc.1,ht⟩⟩
def deepFrom (m:Mem):Int->List ByteArray->Bool
 | _,[]=>false
 | i,x::l=>bif decide (0<(find m.Disk i x).2.2)&&((kindOf m (depAt m (find m.Disk i x).1 (find m.Disk i x).2.1)==2)||(kindOf m (depAt m (find m.Disk i x).1 (find m.Disk i x).2.1)==3)) then true else deepFrom m (find m.Disk i x).2.2 l
def deep (m:Mem) (dir:ByteArray):Bool:=deepFrom m 1 (splitPath dir).1
theorem l12Deep_eq {n:Nat} (hn:FUEL<=n) (m:Mem) (hm:SzMem m) (p:ByteArray) (hp:p.size<=LEN) (k:Bool->Option R):s_l12Deep n m p k=k (deep m p):=by
 simp only [s_l12Deep,deep]
 rw [SplitPath_eq hn p hp]
 have hl:(splitPath p).1.length<=4:=by
  rcases splitPath_cases p with e | e | ⟨_,_,l4⟩
  ·rw [e]; exact Nat.zero_le _
  ·rw [e]; exact Nat.zero_le _
  ·exact l4
 generalize (splitPath p).1=names at hl ⊢
 have loop:∀ (ps:List ByteArray) (j mm:Nat) (i:Int),ps=names.drop j->j<=names.length->ps.length<mm ->
   s_l12Deep_l4 n names m.Disk.Bits.Blocks m.Disk.Bits.Inos m.Disk.Inodes m.Disk.Blocks m.Dirty m.Deps (fun x=>k x) (k false) mm i (j:Int) m.Next=k (deepFrom m i ps):=by
  intro ps
  induction ps with
  | nil =>
   intro j mm i h1 h2 h3
   have:j=names.length:=by have:=congrArg List.length h1; simp at this; omega
   cases mm with
   | zero=>simp at h3
   | succ mm=>simp [s_l12Deep_l4,deepFrom,this]
  | cons x ps ih =>
   intro j mm i h1 h2 h3
   have hj:j<names.length:=by have:=congrArg List.length h1; simp at this; omega
   have hpj:=drop_getD eS hj
   rw [← h1] at hpj; injection hpj with hp1 hp2
   cases mm with
   | zero=>simp at h3
   | succ mm =>
    simp only [s_l12Deep_l4,lt_nat,inR_nat,hj,decide_true,cond_true,chk_t,Int.toNat_natCast,← hp1]
    refine (l11Find_eq hn m.Disk hm.d i x _).trans ?_
    refine (DepAt_eq hn m hm.dp _ _ _).trans ?_
    refine (l12Kind_eq hn _ m hm.dp _).trans ?_
    simp only [deepFrom]
    cases decide (0<(find m.Disk i x).2.2)&&((kindOf m (depAt m (find m.Disk i x).1 (find m.Disk i x).2.1)==2)||(kindOf m (depAt m (find m.Disk i x).1 (find m.Disk i x).2.1)==3)) with
    | true=>rfl
    | false =>
     simp only [cond_false]
     rw [w64_suc (by omega)]
     exact ih (j+1) mm _ hp2 (by omega) (by simp at h3; omega)
 exact loop names 0 n 1 (by simp) (by omega) (fuel_lt hn (by omega))
theorem loop_foldl {α S:Type} {L:Nat->Int->S->Option R} {l:List α} (d:α) {g:S->α->S} {q:S->Option R} {B:Nat} (hl:l.length<=4611686018427387904)
  (hs:∀ m i acc,B<m->i<l.length->L (m+1) (i:Int) acc=L m (w64 ((i:Int)+1)) (g acc (l.getD i d)))
  (hq:∀ m acc,L (m+1) (l.length:Int) acc=q acc):∀ (r j n:Nat) (acc:S),j+r=l.length->r+B<n->L n (j:Int) acc=q ((l.drop j).foldl g acc)
 | 0,j,n,acc,hj,hn=>by
  cases n with
  | zero=>omega
  | succ n =>
   have:j=l.length:=by omega
   subst this
   rw [hq,List.drop_length]; rfl
 | r+1,j,n,acc,hj,hn=>by
  cases n with
  | zero=>omega
  | succ n =>
   rw [hs n j acc (by omega) (by omega),w64_suc (by omega),drop_getD d (by omega:j<l.length),List.foldl_cons]
   exact loop_foldl d hl hs hq r (j+1) n _ (by omega) (by omega)
def ptrOff (i:Int) (v:List Int) (d:Dep):List Int:=bif (((d.Kind==1)&&(d.Ino==i))&&(decide (0<=d.Ptr)))&&(decide (d.Ptr<(v.length:Int))) then v.set d.Ptr.toNat 0 else v
def imageInode (m:Mem) (i:Int):Inode:=bif within i 1 m.Disk.Inodes.length then ⟨(inoAt m.Disk i).Kind,(inoAt m.Disk i).Links,m.Deps.foldl (ptrOff i) (inoAt m.Disk i).Ptrs⟩ else inodeNew 0
theorem ImageInode_eq {n:Nat} (hn:FUEL<=n) (m:Mem) (hm:SzMem m) (i:Int) (k:Inode->Option R):s_ImageInode n m i k=k (imageInode m i):=by
 have hdi:m.Disk.Inodes.length<=2097152:=hm.d.di
 have hdp:m.Deps.length<=2097152:=hm.dp
 simp only [s_ImageInode,In_eq,imageInode]
 cases hw:within i 1 m.Disk.Inodes.length with
 | false=>rfl
 | true =>
  rw [within_iff] at hw
  simp only [Bool.not_true,cond_false,cond_true]
  rw [w64_pred (by omega) (by omega),chk_of (inR_pred hw.1 hw.2),show m.Disk.Inodes.getD (i-1).toNat dInode=inoAt m.Disk i from rfl,
   l03Copy_eq (inoAt m.Disk i) (hm.d.ino _ (getD_mem dInode (l:=m.Disk.Inodes) (i:=(i-1).toNat) (by omega)))]
  have:=loop_foldl (R:=R) (L:=s_ImageInode_l5 i m.Deps (fun v=>k ⟨(inoAt m.Disk i).Kind,(inoAt m.Disk i).Links,v⟩)) (l:=m.Deps) dDep (g:=ptrOff i) (q:=fun v=>k ⟨(inoAt m.Disk i).Kind,(inoAt m.Disk i).Links,v⟩) (B:=0) (by omega)
   (fun mm j acc _ hj=>by
    simp only [s_ImageInode_l5,lt_nat,inR_nat,hj,decide_true,chk_t,cond_true,Int.toNat_natCast,ptrOff]
    cases hc:((((m.Deps.getD j dDep).Kind==1)&&((m.Deps.getD j dDep).Ino==i))&&(decide (0<=(m.Deps.getD j dDep).Ptr)))&&(decide ((m.Deps.getD j dDep).Ptr<(acc.length:Int))) with
    | false=>rfl
    | true =>
     simp only [Bool.and_eq_true] at hc
     simp only [cond_true]
     rw [chk_of (by simp only [inR,Bool.and_eq_true]; exact ⟨hc.1.2,hc.2⟩)])
   (fun mm acc=>by simp [s_ImageInode_l5]) m.Deps.length 0 n (inoAt m.Disk i).Ptrs (by omega) (fuel_lt hn (by omega))
  rw [List.drop_zero] at this
  exact this
def slotOff (p:Int) (v:List Slot) (d:Dep):List Slot :=
 bif ((!(d.Block==p))||(decide (d.Slot<0)))||(decide ((v.length:Int)<=d.Slot)) then v else
 bif d.Kind==2 then v.set d.Slot.toNat ⟨eS,0⟩ else
 bif (d.Kind==4)&&(decide (0<d.After)) then v.set d.Slot.toNat ⟨d.Name,d.Ino⟩ else v
def imageBlock (m:Mem) (p:Int):Block:=bif within p 1 m.Disk.Blocks.length then ⟨(blkAt m.Disk p).Dir,m.Deps.foldl (slotOff p) (blkAt m.Disk p).Slots,(blkAt m.Disk p).Text⟩ else dBlock
theorem ImageBlock_eq {n:Nat} (hn:FUEL<=n) (m:Mem) (hm:SzMem m) (p:Int) (k:Block->Option R):s_ImageBlock n m p k=k (imageBlock m p):=by
 have hdb:m.Disk.Blocks.length<=2097152:=hm.d.db
 have hdp:m.Deps.length<=2097152:=hm.dp
 simp only [s_ImageBlock,In_eq,imageBlock]
 cases hw:within p 1 m.Disk.Blocks.length with
 | false=>rfl
 | true =>
  rw [within_iff] at hw
  simp only [Bool.not_true,cond_false,cond_true]
  rw [w64_pred (by omega) (by omega),chk_of (inR_pred hw.1 hw.2),show m.Disk.Blocks.getD (p-1).toNat dBlock=blkAt m.Disk p from rfl,
   l04Copy_eq (blkAt m.Disk p) (hm.d.blk _ (getD_mem dBlock (l:=m.Disk.Blocks) (i:=(p-1).toNat) (by omega))).1]
  have:=loop_foldl (R:=R) (L:=s_ImageBlock_l5 p m.Deps (fun v=>k ⟨(blkAt m.Disk p).Dir,v,(blkAt m.Disk p).Text⟩)) (l:=m.Deps) dDep (g:=slotOff p) (q:=fun v=>k ⟨(blkAt m.Disk p).Dir,v,(blkAt m.Disk p).Text⟩) (B:=0) (by omega)
   (fun mm j acc _ hj=>by
    simp only [s_ImageBlock_l5,lt_nat,inR_nat,hj,decide_true,chk_t,cond_true,Int.toNat_natCast,slotOff]
    cases hc:((!((m.Deps.getD j dDep).Block==p))||(decide ((m.Deps.getD j dDep).Slot<0)))||(decide ((acc.length:Int)<=(m.Deps.getD j dDep).Slot)) with
    | true=>rfl
    | false =>
     simp only [Bool.or_eq_false_iff,decide_eq_false_iff_not] at hc
     have hr:inR (m.Deps.getD j dDep).Slot acc.length=true:=by simp only [inR,Bool.and_eq_true,decide_eq_true_eq]; omega
     simp only [cond_false]
     cases h2:(m.Deps.getD j dDep).Kind==2 with
     | true =>
      have e2:(m.Deps.getD j dDep).Kind=2:=by simpa using h2
      have h4:((m.Deps.getD j dDep).Kind==4)=false:=by rw [e2]; rfl
      simp only [cond_true,h4,Bool.false_and,cond_false]
      rw [chk_of hr]
     | false =>
      simp only [cond_false]
      cases ((m.Deps.getD j dDep).Kind==4)&&(decide (0<(m.Deps.getD j dDep).After)) with
      | true=>simp only [cond_true]; rw [chk_of hr]
      | false=>rfl)
   (fun mm acc=>by simp [s_ImageBlock_l5]) m.Deps.length 0 n (blkAt m.Disk p).Slots (by omega) (fuel_lt hn (by omega))
  rw [List.drop_zero] at this
  exact this
def unitOf (d:Disk) (u:Int):ByteArray :=
 bif u==0 then bitsText d.Bits else
 bif decide (u<=4) then inodeText (d.Inodes.getD (2*u-2).toNat dInode)++inodeText (d.Inodes.getD (2*u-1).toNat dInode) else
 blockText (d.Blocks.getD (u-5).toNat dBlock)
theorem inodeText_size (x:Inode):(inodeText x).size<=4:=by
 simp only [inodeText]
 cases inodeOk x with
 | false=>show eS.size<=4; decide
 | true=>exact Nat.le_refl 4
theorem l07Unit_eq {n:Nat} (hn:FUEL<=n) (d:Disk) (h:DiskT d) (u:Int) (h0:0<=u) (h1:u<=20) (k:ByteArray->Option R):s_l07Unit n d u k=k (unitOf d u):=by
 have hdi:=h.di
 have hdb:=h.db
 simp only [s_l07Unit,unitOf]
 cases e0:u==0 with
 | true=>simp only [cond_true]; rw [BitsText_eq hn]
 | false =>
  have n0:¬ u=0:=by simpa using e0
  simp only [cond_false]
  cases e4:decide (u<=4) with
  | true =>
   have n4:=of_decide_eq_true e4
   simp only [cond_true]
   rw [w64_id (n:=2*u) (by omega) (by omega),w64_id (n:=2*u-2) (by omega) (by omega),w64_id (n:=2*u-1) (by omega) (by omega),
    chk_of (by simp only [inR,Bool.and_eq_true,decide_eq_true_eq]; omega),InodeText_eq hn,chk_of (by simp only [inR,Bool.and_eq_true,decide_eq_true_eq]; omega),InodeText_eq hn]
   have s1:=inodeText_size (d.Inodes.getD (2*u-2).toNat dInode)
   have s2:=inodeText_size (d.Inodes.getD (2*u-1).toNat dInode)
   rw [chk_of (sizeOk_of (by omega))]
  | false =>
   have n4:=of_decide_eq_false e4
   simp only [cond_false]
   rw [w64_id (n:=u-5) (by omega) (by omega),chk_of (by simp only [inR,Bool.and_eq_true,decide_eq_true_eq]; omega)]
   rw [BlockText_eq hn _ (blockS_sz (h.blk _ (getD_mem dBlock (by omega))))]
def unitText (d:Disk) (u:Int):ByteArray×Bool:=bif diskOk d&&within u 0 20 then (unitOf d u,true) else (eS,false)
theorem UnitText_eq {n:Nat} (hn:FUEL<=n) (d:Disk) (hd:SzDisk d) (u:Int) (k:ByteArray->Bool->Option R):s_UnitText n d u k=k (unitText d u).1 (unitText d u).2:=by
 simp only [s_UnitText,unitText,In_eq]
 rw [DiskOk_eq hn d hd]
 cases h1:diskOk d with
 | false=>rfl
 | true =>
  cases h2:within u 0 20 with
  | false=>rfl
  | true =>
   rw [within_iff] at h2
   simp only [Bool.not_true,Bool.not_false,cond_true,cond_false,Bool.or_false,Bool.and_true]
   rw [l07Unit_eq hn d (diskOk_iff.1 h1).t u h2.1 h2.2]
def unitS (s:ByteArray):Bool:= !decide (60<(s.size:Int))
def deviceOk (d:Device):Bool:=d.Units.all unitS&&(d.Units.length==21)
theorem DeviceOk_eq {n:Nat} (hn:FUEL<=n) (d:Device) (hd:d.Units.length<=LEN) (k:Bool->Option R):s_DeviceOk n d k=k (deviceOk d):=by
 have hd':d.Units.length<=2097152:=hd
 have:=loop_list (R:=R) (L:=s_DeviceOk_l2 d.Units (fun x=>k x) (k ((d.Units.length:Int)==21))) (l:=d.Units) eS (B:=0) (P:=unitS) (e:=k false) (q:=k ((d.Units.length:Int)==21)) (by omega)
  (fun m i _ hi=>by
   simp only [s_DeviceOk_l2,lt_nat,inR_nat,hi,decide_true,chk_t,cond_true,Int.toNat_natCast,unitS]
   cases decide (60<((d.Units.getD i eS).size:Int))<;>rfl) (fun m=>by simp [s_DeviceOk_l2]) (n:=n) (fuel_lt hn (by omega))
 refine this.trans ?_
 simp only [deviceOk]
 rw [show (21:Int)=((21:Nat):Int) from rfl,int_beq]
 cases d.Units.all unitS<;>rfl
def writeUnit (d:Device) (u:Int) (s:ByteArray):Device×Bool :=
 bif ((!deviceOk d)||(!within u 0 20))||(decide (60<(s.size:Int))) then (d,false) else (⟨d.Units.set u.toNat s⟩,true)
theorem WriteUnit_eq {n:Nat} (hn:FUEL<=n) (d:Device) (hd:d.Units.length<=LEN) (u:Int) (s:ByteArray) (k:Device->Bool->Option R):s_WriteUnit n d u s k=k (writeUnit d u s).1 (writeUnit d u s).2:=by
 have hd':d.Units.length<=2097152:=hd
 simp only [s_WriteUnit,writeUnit,In_eq,List.nil_append]
 rw [chk_of (lenOk_of (by omega)),DeviceOk_eq hn d hd]
 cases h1:deviceOk d with
 | false=>rfl
 | true =>
  cases h2:within u 0 20 with
  | false=>rfl
  | true =>
   cases h3:decide (60<(s.size:Int)) with
   | true=>rfl
   | false =>
    rw [within_iff] at h2
    simp only [deviceOk,Bool.and_eq_true,beq_iff_eq] at h1
    simp only [Bool.not_true,Bool.not_false,cond_true,cond_false,Bool.or_false]
    rw [chk_of (by simp only [inR,Bool.and_eq_true,decide_eq_true_eq]; omega)]
def fsOk (f:Fs):Bool:=memOk f.Mem&&deviceOk f.Device
theorem FsOk_eq {n:Nat} (hn:FUEL<=n) (f:Fs) (hm:SzMem f.Mem) (hd:f.Device.Units.length<=LEN) (k:Bool->Option R):s_FsOk n f k=k (fsOk f):=by
 simp only [s_FsOk,fsOk]
 rw [MemOk_eq hn _ hm,DeviceOk_eq hn _ hd]
 cases memOk f.Mem<;>rfl
theorem l13Copy_eq {n:Nat} (hn:FUEL<=n) (f:Fs) (hm:SzMem f.Mem) (hd:f.Device.Units.length<=LEN) (k:Fs->Option R):s_l13Copy n f k=k f:=by
 have hd':f.Device.Units.length<=2097152:=hd
 simp only [s_l13Copy,List.nil_append]
 rw [l08Copy_eq hn _ hm,chk_of (lenOk_of (by omega))]
theorem loop_set {α:Type} {L:Nat->Int->List α->Option R} {len B:Nat} {f:Nat->α} {q:List α->Option R}
  (hs:∀ m j v,B<m->j<len->v.length=len->L (m+1) ((j+1:Nat):Int) v=L m ((j+2:Nat):Int) (v.set j (f j)))
  (hq:∀ m v,L (m+1) ((len+1:Nat):Int) v=q v):∀ (r j n:Nat) (b:List α),j+r=len->b.length=r->r+B<n ->
   L n ((j+1:Nat):Int) ((List.range' 0 j).map f++b)=q ((List.range' 0 len).map f)
 | 0,j,n,b,hj,hb,hn=>by
  cases n with
  | zero=>omega
  | succ n =>
   have:j=len:=by omega
   subst this
   have hb0:b=[]:=List.length_eq_zero_iff.1 hb
   rw [hq,hb0,List.append_nil]
 | r+1,j,n,b,hj,hb,hn=>by
  cases n with
  | zero=>omega
  | succ n =>
   cases b with
   | nil=>simp at hb
   | cons x b =>
    have hl:((List.range' 0 j).map f).length=j:=by simp
    rw [hs n j _ (by omega) (by omega) (by rw [List.length_append,hl]; omega),set_mid _ hl]
    have:=loop_set hs hq r (j+1) n b (by omega) (by simpa using hb) (by omega)
    rw [List.range'_concat,List.map_append,List.append_assoc] at this
    rw [show ((j+2:Nat):Int)=((j+1+1:Nat):Int) from rfl]
    refine Eq.trans ?_ this
    simp
def imageDisk (m:Mem):Disk:=⟨m.Disk.Bits,(List.range' 0 8).map fun i=>imageInode m ((i+1:Nat):Int),(List.range' 0 16).map fun i=>imageBlock m ((i+1:Nat):Int)⟩
theorem image_l5 {n:Nat} (hn:FUEL<=n) (m:Mem) (hm:SzMem m) (h8:m.Disk.Inodes.length=8) (q:List Inode->Option R) :
  s_ImageUnit_l5 n m.Next m.Disk.Bits.Blocks m.Disk.Bits.Inos m.Disk.Inodes m.Disk.Blocks m.Dirty m.Deps q n 1 m.Disk.Inodes=q ((List.range' 0 8).map fun i=>imageInode m ((i+1:Nat):Int)):=by
 have hn':100000000<=n:=hn
 have:=loop_set (R:=R) (L:=s_ImageUnit_l5 n m.Next m.Disk.Bits.Blocks m.Disk.Bits.Inos m.Disk.Inodes m.Disk.Blocks m.Dirty m.Deps q) (len:=8) (B:=0) (f:=fun i=>imageInode m ((i+1:Nat):Int)) (q:=q)
  (fun mm j v _ hj hv=>by
   have hd:decide (((j+1:Nat):Int)<=8)=true:=decide_eq_true (by omega)
   simp only [s_ImageUnit_l5,hd,cond_true]
   refine (ImageInode_eq hn m hm _ _).trans ?_
   rw [w64_id (n:=((j+1:Nat):Int)-1) (by omega) (by omega),chk_of (by simp only [inR,Bool.and_eq_true,decide_eq_true_eq]; omega),w64_id (by omega) (by omega)]
   rw [show (((j+1:Nat):Int)-1).toNat=j by omega,show ((j+1:Nat):Int)+1=((j+2:Nat):Int) by omega])
  (fun mm v=>rfl) 8 0 n m.Disk.Inodes (by omega) h8 (by omega)
 simpa using this
theorem image_l9 {n:Nat} (hn:FUEL<=n) (m:Mem) (hm:SzMem m) (h8:m.Disk.Blocks.length=16) (q:List Block->Option R) :
  s_ImageUnit_l9 n m.Next m.Disk.Bits.Blocks m.Disk.Bits.Inos m.Disk.Inodes m.Disk.Blocks m.Dirty m.Deps q n 1 m.Disk.Blocks=q ((List.range' 0 16).map fun i=>imageBlock m ((i+1:Nat):Int)):=by
 have hn':100000000<=n:=hn
 have:=loop_set (R:=R) (L:=s_ImageUnit_l9 n m.Next m.Disk.Bits.Blocks m.Disk.Bits.Inos m.Disk.Inodes m.Disk.Blocks m.Dirty m.Deps q) (len:=16) (B:=0) (f:=fun i=>imageBlock m ((i+1:Nat):Int)) (q:=q)
  (fun mm j v _ hj hv=>by
   have hd:decide (((j+1:Nat):Int)<=16)=true:=decide_eq_true (by omega)
   simp only [s_ImageUnit_l9,hd,cond_true]
   refine (ImageBlock_eq hn m hm _ _).trans ?_
   rw [w64_id (n:=((j+1:Nat):Int)-1) (by omega) (by omega),chk_of (by simp only [inR,Bool.and_eq_true,decide_eq_true_eq]; omega),w64_id (by omega) (by omega)]
   rw [show (((j+1:Nat):Int)-1).toNat=j by omega,show ((j+1:Nat):Int)+1=((j+2:Nat):Int) by omega])
  (fun mm v=>rfl) 16 0 n m.Disk.Blocks (by omega) h8 (by omega)
 simpa using this
theorem ptrOff_len (i:Int) (v:List Int) (d:Dep):(ptrOff i v d).length=v.length:=by
 simp only [ptrOff]
 cases (((d.Kind==1)&&(d.Ino==i))&&(decide (0<=d.Ptr)))&&(decide (d.Ptr<(v.length:Int))) with
 | false=>rfl
 | true=>exact List.length_set
theorem ptrOffs_len (i:Int) (l:List Dep):∀ v:List Int,(l.foldl (ptrOff i) v).length=v.length:=by
 induction l with
 | nil=>intro v; rfl
 | cons d l ih=>intro v; rw [List.foldl_cons,ih,ptrOff_len]
theorem slotOff_sz (p:Int) (v:List Slot) (d:Dep) (hd:SzDep d) (hv:∀ s∈v,SzSlot s):(slotOff p v d).length=v.length/\∀ s∈slotOff p v d,SzSlot s:=by
 simp only [slotOff]
 cases ((!(d.Block==p))||(decide (d.Slot<0)))||(decide ((v.length:Int)<=d.Slot)) with
 | true=>exact ⟨rfl,hv⟩
 | false =>
  cases d.Kind==2 with
  | true=>exact ⟨List.length_set,fun s hs=>(mem_set hs).elim (hv s) (fun e=>by rw [e]; show eS.size<=LEN; decide)⟩
  | false =>
   cases (d.Kind==4)&&(decide (0<d.After)) with
   | true=>exact ⟨List.length_set,fun s hs=>(mem_set hs).elim (hv s) (fun e=>by rw [e]; exact hd.1)⟩
   | false=>exact ⟨rfl,hv⟩
theorem slotOffs_sz (p:Int) (l:List Dep):∀ v:List Slot,(∀ d∈l,SzDep d)->(∀ s∈v,SzSlot s)->(l.foldl (slotOff p) v).length=v.length/\∀ s∈l.foldl (slotOff p) v,SzSlot s:=by
 induction l with
 | nil=>intro v _ h; exact ⟨rfl,h⟩
 | cons d l ih =>
  intro v hl hv
  rw [List.foldl_cons]
  have h1:=slotOff_sz p v d (hl d List.mem_cons_self) hv
  have h2:=ih (slotOff p v d) (fun x hx=>hl x (List.mem_cons_of_mem _ hx)) h1.2
  exact ⟨h2.1.trans h1.1,h2.2⟩
theorem imageDisk_sz {m:Mem} (h:MemT m):SzDisk (imageDisk m):=by
 have hm:=h.szm
 refine ⟨hm.d.bb,hm.d.bi,?_,?_,?_,?_⟩
 ·show ((List.range' 0 8).map _).length<=LEN; rw [List.length_map,List.length_range']; decide
 ·show ((List.range' 0 16).map _).length<=LEN; rw [List.length_map,List.length_range']; decide
 ·intro x hx
  obtain ⟨i,_,rfl⟩:=List.mem_map.1 hx
  show (imageInode m _).Ptrs.length<=LEN
  simp only [imageInode]
  cases hw:within ((i+1:Nat):Int) 1 m.Disk.Inodes.length with
  | false=>show (2:Nat)<=LEN; decide
  | true =>
   rw [within_iff] at hw
   simp only [cond_true]
   rw [ptrOffs_len]
   exact hm.d.ino _ (getD_mem dInode (by omega))
 ·intro b hb
  obtain ⟨i,_,rfl⟩:=List.mem_map.1 hb
  simp only [imageBlock]
  cases hw:within ((i+1:Nat):Int) 1 m.Disk.Blocks.length with
  | false=>exact ⟨Nat.zero_le _,by show eS.size<=LEN; decide,fun s hs=>by cases hs⟩
  | true =>
   rw [within_iff] at hw
   simp only [cond_true]
   have hb:=hm.d.blk _ (getD_mem dBlock (l:=m.Disk.Blocks) (i:=(((i+1:Nat):Int)-1).toNat) (by omega))
   have:=slotOffs_sz ((i+1:Nat):Int) m.Deps (blkAt m.Disk ((i+1:Nat):Int)).Slots hm.dep hb.2.2
   exact ⟨Nat.le_trans (Nat.le_of_eq this.1) hb.1,hb.2.1,this.2⟩
def imageUnit (m:Mem) (u:Int):ByteArray×Bool:=bif memOk m&&within u 0 20 then unitText (imageDisk m) u else (eS,false)
theorem ImageUnit_eq {n:Nat} (hn:FUEL<=n) (m:Mem) (hm:SzMem m) (u:Int) (k:ByteArray->Bool->Option R):s_ImageUnit n m u k=k (imageUnit m u).1 (imageUnit m u).2:=by
 simp only [s_ImageUnit,imageUnit,In_eq]
 rw [MemOk_eq hn m hm]
 cases h1:memOk m with
 | false=>rfl
 | true =>
  cases h2:within u 0 20 with
  | false=>rfl
  | true =>
   have hT:=(memOk_iff.1 h1).t hm
   simp only [Bool.not_true,Bool.not_false,cond_true,cond_false,Bool.or_false,Bool.and_true]
   rw [l07Copy_eq hn _ hm.d,image_l5 hn m hm hT.d.di,image_l9 hn m hm hT.d.db]
   exact UnitText_eq hn (imageDisk m) (imageDisk_sz hT) u _
theorem loop_inplace {α:Type} {L:Nat->Int->List α->Option R} {f:α->α} {B:Nat} {q:List α->Option R}
  (hs:∀ m (a b:List α) x,B<m->a.length+b.length<4611686018427387904->L (m+1) (a.length:Int) (a++x::b)=L m (w64 ((a.length:Int)+1)) (a++f x::b))
  (hq:∀ m (a:List α),L (m+1) (a.length:Int) a=q a):∀ (b a:List α) (n:Nat),a.length+b.length<=4611686018427387904->b.length+B<n->L n (a.length:Int) (a++b)=q (a++b.map f)
 | [],a,n,hl,hn=>by
  cases n with
  | zero=>omega
  | succ n=>rw [List.append_nil,hq,List.map_nil,List.append_nil]
 | x::b,a,n,hl,hn=>by
  cases n with
  | zero=>omega
  | succ n =>
   rw [List.length_cons] at hl hn
   rw [hs n a b x (by omega) (by omega),w64_suc (by omega)]
   have:=loop_inplace hs hq b (a++[f x]) n (by rw [List.length_append,List.length_singleton]; omega) (by omega)
   rw [List.append_assoc,List.singleton_append,List.length_append,List.length_singleton,List.append_assoc,List.singleton_append] at this
   exact this
def flag1 (u:Int) (d:Dep):Dep:=bif (u==0)&&((d.Kind==1)||(d.Kind==2)) then { d with Bits:=true } else d
def flag2 (u:Int) (d:Dep):Dep:=bif ((d.Kind==2)&&(unitOfIno d.Ino==u))||((d.Kind==1)&&(unitOfBlock d.Block==u)) then { d with Other:=true } else d
theorem flag_zz (k2 k1:Bool) (a b u:Int):(((k2&&((bif k2 then a else 0)==u)))||(k1&&((bif (!(k2&&((bif k2 then a else 0)==u)))&&k1 then b else 0)==u)))=((k2&&(a==u))||(k1&&(b==u))):=by
 cases k2<;>cases k1<;>cases h:a==u<;>simp [h]
def flag (u:Int) (m:Mem):Mem:=⟨m.Disk,m.Dirty,m.Deps.map fun d=>flag2 u (flag1 u d),m.Next⟩
theorem l10Flag_eq {n:Nat} (hn:FUEL<=n) (u:Int) (m:Mem) (hm:m.Deps.length<=LEN) (k:Mem->Option R):s_l10Flag n u m k=k (flag u m):=by
 have hm':m.Deps.length<=2097152:=hm
 have hn':100000000<=n:=hn
 have:=loop_inplace (R:=R) (L:=s_l10Flag_l1 u (fun deps=>k ⟨m.Disk,m.Dirty,deps,m.Next⟩)) (f:=fun d=>flag2 u (flag1 u d)) (B:=0) (q:=fun deps=>k ⟨m.Disk,m.Dirty,deps,m.Next⟩)
  (fun mm a b x _ hl=>by
   have hlen:∀ z:Dep,(a++z::b).length=a.length+(b.length+1):=fun z=>by simp only [List.length_append,List.length_cons]
   have hlt:decide (a.length<a.length+(b.length+1))=true:=decide_eq_true (by omega)
   simp only [s_l10Flag_l1,Int.toNat_natCast,getD_mid _ (rfl:a.length=a.length),set_mid _ (rfl:a.length=a.length),hlen,lt_nat,inR_nat,hlt,cond_true,chk_t,UnitOfIno_eq,UnitOfBlock_eq,flag_zz,flag1]
   cases (u==0)&&((x.Kind==1)||(x.Kind==2)) with
   | true =>
    simp only [cond_true,flag2]
    cases ((x.Kind==2)&&(unitOfIno x.Ino==u))||((x.Kind==1)&&(unitOfBlock x.Block==u))<;>rfl
   | false =>
    simp only [cond_false,flag2]
    cases ((x.Kind==2)&&(unitOfIno x.Ino==u))||((x.Kind==1)&&(unitOfBlock x.Block==u))<;>rfl)
  (fun mm a=>by simp [s_l10Flag_l1]) m.Deps [] n (by rw [List.length_nil]; omega) (by omega)
 exact this
theorem loop_map2 {α β S:Type} {L:Nat->Int->List β->S->Option R} {l:List α} (d:α) {f:α->β} {g:S->α->S} {B:Nat} {q:List β->S->Option R} (hl:l.length<=4611686018427387904)
  (hs:∀ m i acc st,B<m->i<l.length->acc.length=i->L (m+1) (i:Int) acc st=L m (w64 ((i:Int)+1)) (acc++[f (l.getD i d)]) (g st (l.getD i d)))
  (hq:∀ m acc st,L (m+1) (l.length:Int) acc st=q acc st):∀ (r j n:Nat) (acc:List β) (st:S),j+r=l.length->acc.length=j->r+B<n->L n (j:Int) acc st=q (acc++(l.drop j).map f) ((l.drop j).foldl g st)
 | 0,j,n,acc,st,hj,ha,hn=>by
  cases n with
  | zero=>omega
  | succ n =>
   have:j=l.length:=by omega
   subst this
   rw [hq,List.drop_length]; simp
 | r+1,j,n,acc,st,hj,ha,hn=>by
  cases n with
  | zero=>omega
  | succ n =>
   rw [hs n j acc st (by omega) (by omega) ha,w64_suc (by omega),drop_getD d (by omega:j<l.length),List.foldl_cons,List.map_cons]
   have:=loop_map2 d hl hs hq r (j+1) n (acc++[f (l.getD j d)]) (g st (l.getD j d)) (by omega) (by rw [List.length_append,List.length_singleton]; omega) (by omega)
   rw [List.append_assoc,List.singleton_append] at this
   exact this
def pending (l:List Dep) (block:Int):Bool:=l.any fun d=>((d.Kind==1)||(d.Kind==6))&&(d.Block==block)
theorem l10Pending_eq {n:Nat} (hn:FUEL<=n) (l:List Dep) (hl:l.length<=LEN) (block:Int) (k:Bool->Option R):s_l10Pending n l block k=k (pending l block):=by
 have hl':l.length<=2097152:=hl
 have:=loop_list (R:=R) (L:=s_l10Pending_l2 block l (fun x=>k x) (k false)) (l:=l) dDep (B:=0) (P:=fun d=> !(((d.Kind==1)||(d.Kind==6))&&(d.Block==block))) (e:=k true) (q:=k false) (by omega)
  (fun m i _ hi=>by
   simp only [s_l10Pending_l2,lt_nat,inR_nat,hi,decide_true,chk_t,cond_true,Int.toNat_natCast,Bool.or_true]
   cases (((l.getD i dDep).Kind==1)||((l.getD i dDep).Kind==6))&&((l.getD i dDep).Block==block)<;>rfl) (fun m=>by simp [s_l10Pending_l2]) (n:=n) (fuel_lt hn (by omega))
 refine this.trans ?_
 rw [not_all (fun d:Dep=>((d.Kind==1)||(d.Kind==6))&&(d.Block==block)),pending]
 cases l.any _<;>rfl
def ready1 (l:List Dep) (d:Dep):Dep :=
 bif ((d.Kind==1)&&d.Bits)&&d.Other then { d with Kind:=6 } else
 bif (((d.Kind==2)&&d.Bits)&&d.Other)&&(!pending l d.Block) then { d with Kind:=3 } else d
def readyD (l:List Dep) (y:List Bool) (d:Dep):List Bool :=
 bif ((d.Kind==1)&&d.Bits)&&d.Other then markD (unitOfIno d.Ino) y else
 bif (((d.Kind==2)&&d.Bits)&&d.Other)&&(!pending l d.Block) then markD (unitOfBlock d.Block) y else y
def ready (m:Mem):Mem:=⟨m.Disk,m.Deps.foldl (readyD m.Deps) m.Dirty,m.Deps.map (ready1 m.Deps),m.Next⟩
theorem l10Ready_eq {n:Nat} (hn:FUEL<=n) (m:Mem) (hm:m.Deps.length<=LEN) (k:Mem->Option R):s_l10Ready n m k=k (ready m):=by
 have hm':m.Deps.length<=2097152:=hm
 have hn':100000000<=n:=hn
 simp only [s_l10Ready,List.nil_append]
 rw [chk_of (lenOk_of (by omega))]
 have:=loop_map2 (R:=R) (S:=List Bool) (L:=fun mm i acc y=>s_l10Ready_l3 n m.Deps m.Disk.Bits.Blocks m.Disk.Bits.Inos m.Disk.Inodes m.Disk.Blocks m.Deps (fun next list dirty=>k ⟨m.Disk,dirty,list,next⟩) mm i m.Next acc y) (l:=m.Deps) dDep
  (f:=ready1 m.Deps) (g:=readyD m.Deps) (B:=0) (q:=fun list dirty=>k ⟨m.Disk,dirty,list,m.Next⟩) (by omega)
  (fun mm i acc y _ hi ha=>by
   have hlen:∀ z:Dep,lenOk (acc++[z])=true:=fun z=>lenOk_of (by rw [List.length_append,List.length_singleton]; omega)
   simp only [s_l10Ready_l3,lt_nat,inR_nat,hi,decide_true,chk_t,cond_true,Int.toNat_natCast,UnitOfIno_eq,UnitOfBlock_eq,l08Mark_eq,mark_mk,l10Pending_eq hn m.Deps hm,hlen,ready1,readyD]
   cases h1:(((m.Deps.getD i dDep).Kind==1)&&(m.Deps.getD i dDep).Bits)&&(m.Deps.getD i dDep).Other with
   | true=>rfl
   | false =>
    simp only [cond_false]
    cases h2:(((m.Deps.getD i dDep).Kind==2)&&(m.Deps.getD i dDep).Bits)&&(m.Deps.getD i dDep).Other with
    | false=>rfl
    | true =>
     simp only [cond_true,Bool.true_and]
     cases pending m.Deps (m.Deps.getD i dDep).Block<;>rfl)
  (fun mm acc y=>by simp [s_l10Ready_l3]) m.Deps.length 0 n [] m.Dirty (by omega) rfl (by omega)
 rw [List.drop_zero,List.nil_append] at this
 exact this
theorem loop_foldI {α S:Type} {L:Nat->Int->S->Option R} {l:List α} (d:α) (P:S->Prop) {g:S->α->S} {q:S->Option R} {B:Nat} (hl:l.length<=4611686018427387904)
  (hs:∀ m i acc,B<m->i<l.length->P acc->L (m+1) (i:Int) acc=L m (w64 ((i:Int)+1)) (g acc (l.getD i d))/\P (g acc (l.getD i d)))
  (hq:∀ m acc,L (m+1) (l.length:Int) acc=q acc):∀ (r j n:Nat) (acc:S),j+r=l.length->r+B<n->P acc->L n (j:Int) acc=q ((l.drop j).foldl g acc)/\P ((l.drop j).foldl g acc)
 | 0,j,n,acc,hj,hn,hP=>by
  cases n with
  | zero=>omega
  | succ n =>
   have:j=l.length:=by omega
   subst this
   rw [hq,List.drop_length]; exact ⟨rfl,hP⟩
 | r+1,j,n,acc,hj,hn,hP=>by
  cases n with
  | zero=>omega
  | succ n =>
   obtain ⟨h1,h2⟩:=hs n j acc (by omega) (by omega) hP
   rw [h1,w64_suc (by omega),drop_getD d (by omega:j<l.length),List.foldl_cons]
   exact loop_foldI d P hl hs hq r (j+1) n _ (by omega) (by omega) h2
def freeBits (bl:List Int) (bb:List Bool):List Bool:=bl.foldl (fun bb p=>bb.set (p-1).toNat false) bb
theorem freed_l3 {n:Nat} (hn:FUEL<=n) (bl:List Int) (hl:bl.length<=LEN) (hb:∀ p∈bl,1<=p/\p<=16) (bb:List Bool) (h16:bb.length=16) (q:List Bool->Option R) :
  s_l10Freed_l3 bl q n 0 bb=q (freeBits bl bb)/\(freeBits bl bb).length=16:=by
 have hl':bl.length<=2097152:=hl
 have:=loop_foldI (R:=R) (L:=s_l10Freed_l3 bl q) (l:=bl) 0 (fun bb=>bb.length=16) (g:=fun bb p=>bb.set (p-1).toNat false) (q:=q) (B:=0) (by omega)
  (fun m i acc _ hi ha=>by
   have hp:=hb _ (getD_mem 0 hi)
   simp only [s_l10Freed_l3,lt_nat,inR_nat,hi,decide_true,chk_t,cond_true,Int.toNat_natCast]
   rw [w64_pred (by omega) (by omega),chk_of (inR_pred hp.1 (by omega))]
   exact ⟨rfl,List.length_set.trans ha⟩)
  (fun m acc=>by simp [s_l10Freed_l3]) bl.length 0 n bb (by omega) (fuel_lt hn (by omega)) h16
 rw [List.drop_zero] at this
 exact this
def freed1 (bl:List Int) (m:Mem) (x:Dep):Mem:=bif (x.Kind==4)&&has bl x.Block then lose x.Ino (dropDep m x.Id) else m
def freed2 (d:Dep) (m:Mem):Mem:=⟨⟨⟨freeBits d.Blocks m.Disk.Bits.Blocks,m.Disk.Bits.Inos.set (d.Ino-1).toNat false⟩,m.Disk.Inodes,m.Disk.Blocks⟩,markD 0 m.Dirty,m.Deps,m.Next⟩
def freed (d:Dep) (m:Mem):Mem:=(dropDep m d.Id).Deps.foldl (freed1 d.Blocks) (freed2 d (dropDep m d.Id))
theorem l10Lose_eqT {n:Nat} (hn:FUEL<=n) {m:Mem} (h:MemT m) {i:Int} (h1:1<=i) (h2:i<=8) (k:Mem->Option R):s_l10Lose n i m k=k (lose i m):=by
 refine l10Lose_eq hn m h.szm i h1 (by rw [h.d.di]; exact h2) ?_ (by rw [h.d.ptrs h1 h2]; decide) k
 have:=h.d.inoR h1 h2
 simp only [inodeOk,Bool.and_eq_true] at this
 exact this.2.1
theorem depNums_ino {m:Mem} {d:Dep} (h:depNums m d=true):1<=d.Ino/\d.Ino<=8:=by
 simp only [depNums,Bool.and_eq_true,within_iff] at h
 exact h.2.2.1
theorem l10Freed_eq {n:Nat} (hn:FUEL<=n) (d:Dep) (m:Mem) (h:MemT m) (hi:1<=d.Ino/\d.Ino<=8) (hb:∀ p∈d.Blocks,1<=p/\p<=16) (hbl:d.Blocks.length<=LEN) (k:Mem->Option R) :
  s_l10Freed n d m k=k (freed d m)/\MemT (freed d m):=by
 have hn':100000000<=n:=hn
 have h1:=h.drop d.Id
 have hdp:=h1.dp
 simp only [s_l10Freed]
 rw [DropDep_eq hn m h.szm]
 obtain ⟨e3,l3⟩:=freed_l3 (R:=R) hn d.Blocks hbl hb (dropDep m d.Id).Disk.Bits.Blocks h1.d.bb (fun bb =>
  chk (inR (w64 (d.Ino-1)) (dropDep m d.Id).Disk.Bits.Inos.length) <|
  s_l08Mark 0 ⟨⟨⟨bb,(dropDep m d.Id).Disk.Bits.Inos.set ((w64 (d.Ino-1)).toNat) false⟩,(dropDep m d.Id).Disk.Inodes,(dropDep m d.Id).Disk.Blocks⟩,(dropDep m d.Id).Dirty,(dropDep m d.Id).Deps,(dropDep m d.Id).Next⟩ fun mo =>
  s_l10Freed_l10 n (dropDep m d.Id).Deps d.Blocks (fun next bb_1 bi di db dirty deps =>
   k ⟨⟨⟨bb_1,bi⟩,di,db⟩,dirty,deps,next⟩) n 0 mo.Next bb ((dropDep m d.Id).Disk.Bits.Inos.set ((w64 (d.Ino-1)).toNat) false) (dropDep m d.Id).Disk.Inodes (dropDep m d.Id).Disk.Blocks mo.Dirty (dropDep m d.Id).Deps)
 have h2:MemT (freed2 d (dropDep m d.Id)):=(h1.disk (h1.d.setBits (bb:=freeBits d.Blocks (dropDep m d.Id).Disk.Bits.Blocks) (bi:=(dropDep m d.Id).Disk.Bits.Inos.set (d.Ino-1).toNat false) l3 (List.length_set.trans h1.d.bi))).mark 0
 have loop:=loop_foldI (R:=R) (S:=Mem) (L:=fun mm i acc=>s_l10Freed_l10 n (dropDep m d.Id).Deps d.Blocks (fun next bb_1 bi di db dirty deps=>k ⟨⟨⟨bb_1,bi⟩,di,db⟩,dirty,deps,next⟩) mm i acc.Next acc.Disk.Bits.Blocks acc.Disk.Bits.Inos acc.Disk.Inodes acc.Disk.Blocks acc.Dirty acc.Deps)
  (l:=(dropDep m d.Id).Deps) dDep MemT (g:=freed1 d.Blocks) (q:=k) (B:=0) (by omega)
  (fun mm i acc _ hlt ha=>by
   have hx:=depNums_ino (h1.num _ (getD_mem dDep hlt))
   simp only [s_l10Freed_l10,lt_nat,inR_nat,hlt,decide_true,chk_t,cond_true,Int.toNat_natCast,Bool.or_true,l10Has_eq hn d.Blocks hbl,freed1]
   cases hk:((dropDep m d.Id).Deps.getD i dDep).Kind==4 with
   | false=>exact ⟨rfl,ha⟩
   | true =>
    cases hh:has d.Blocks ((dropDep m d.Id).Deps.getD i dDep).Block with
    | false=>exact ⟨rfl,ha⟩
    | true =>
     have hd:=ha.drop ((dropDep m d.Id).Deps.getD i dDep).Id
     simp only [cond_true,Bool.and_true]
     refine ⟨?_,hd.lose hx.1 hx.2⟩
     refine (DropDep_eq hn acc ha.szm _ _).trans ?_
     exact l10Lose_eqT hn hd hx.1 hx.2 _)
  (fun mm acc=>by simp [s_l10Freed_l10]) (dropDep m d.Id).Deps.length 0 n (freed2 d (dropDep m d.Id)) (by omega) (by omega) h2
 rw [List.drop_zero] at loop
 refine ⟨?_,loop.2⟩
 refine e3.trans ?_
 rw [w64_pred (by omega) (by omega),chk_of (inR_pred hi.1 (by rw [h1.d.bi]; exact hi.2)),l08Mark_eq,mark_mk]
 exact loop.1
def doneStep (u:Int) (o:Mem) (d:Dep):Mem :=
 bif (d.Kind==6)&&(unitOfIno d.Ino==u) then dropDep o d.Id else
 bif (d.Kind==5)&&(unitOfIno d.Ino==u) then freed d o else
 bif (d.Kind==3)&&(unitOfBlock d.Block==u) then shown d.Id 0 o else
 bif ((d.Kind==4)&&(d.After==0))&&(unitOfBlock d.Block==u) then lose d.Ino (dropDep o d.Id) else o
def clean (u:Int) (m:Mem):Mem:=⟨m.Disk,m.Dirty.set u.toNat false,m.Deps,m.Next⟩
def done (m:Mem) (u:Int):Mem:=bif memOk m&&within u 0 20 then ready (m.Deps.foldl (doneStep u) (flag u (clean u m))) else m
theorem flag1_same (u:Int) (d:Dep):(flag2 u (flag1 u d)).Id=d.Id/\(flag2 u (flag1 u d)).Kind=d.Kind/\(flag2 u (flag1 u d)).Ino=d.Ino/\(flag2 u (flag1 u d)).Ptr=d.Ptr/\(flag2 u (flag1 u d)).Block=d.Block/\(flag2 u (flag1 u d)).Slot=d.Slot/\(flag2 u (flag1 u d)).Name=d.Name/\(flag2 u (flag1 u d)).After=d.After/\(flag2 u (flag1 u d)).Blocks=d.Blocks:=by
 simp only [flag1,flag2]
 cases (u==0)&&((d.Kind==1)||(d.Kind==2))<;>simp only [cond_true,cond_false] <;>
  cases ((d.Kind==2)&&(unitOfIno d.Ino==u))||((d.Kind==1)&&(unitOfBlock d.Block==u))<;>simp
theorem depNums_same {m m':Mem} {d d':Dep} (hn:m'.Next=m.Next) (h1:d'.Id=d.Id) (h2:d'.Kind=d.Kind) (h3:d'.Ino=d.Ino) (h4:d'.Ptr=d.Ptr) (h5:d'.Block=d.Block) (h6:d'.Slot=d.Slot) (h7:d'.After=d.After):depNums m' d'=depNums m d:=by
 simp only [depNums,hn,h1,h2,h3,h4,h5,h6,h7]
theorem MemT.flag {m:Mem} (h:MemT m) (u:Int):MemT (Soft.flag u m):=by
 refine ⟨h.d,h.dy,?_,h.n1,h.n2,?_,?_,?_⟩
 ·simp only [Soft.flag,List.length_map]; exact h.dp
 ·intro x hx
  simp only [Soft.flag,List.mem_map] at hx
  obtain ⟨d,hd,rfl⟩:=hx
  obtain ⟨a1,a2,a3,a4,a5,a6,a7,a8,a9⟩:=flag1_same u d
  exact (depNums_same (m:=m) rfl a1 a2 a3 a4 a5 a6 a8).trans (h.num d hd)
 ·intro x hx
  simp only [Soft.flag,List.mem_map] at hx
  obtain ⟨d,hd,rfl⟩:=hx
  obtain ⟨a1,a2,a3,a4,a5,a6,a7,a8,a9⟩:=flag1_same u d
  rw [a9]; exact h.bs d hd
 ·intro x hx
  simp only [Soft.flag,List.mem_map] at hx
  obtain ⟨d,hd,rfl⟩:=hx
  obtain ⟨a1,a2,a3,a4,a5,a6,a7,a8,a9⟩:=flag1_same u d
  simp only [SzDep,a7,a9]; exact h.sz d hd
theorem ready1_num {m m':Mem} (hn:m'.Next=m.Next) (l:List Dep) {d:Dep} (h:depNums m d=true):depNums m' (ready1 l d)=true:=by
 simp only [ready1]
 cases ((d.Kind==1)&&d.Bits)&&d.Other with
 | true =>
  simp only [depNums,Bool.and_eq_true,within_iff,cond_true,hn] at h ⊢
  exact ⟨h.1,by omega,h.2.2⟩
 | false =>
  cases (((d.Kind==2)&&d.Bits)&&d.Other)&&(!pending l d.Block) with
  | true =>
   simp only [depNums,Bool.and_eq_true,within_iff,cond_true,cond_false,hn] at h ⊢
   exact ⟨h.1,by omega,h.2.2⟩
  | false=>rw [← h]; simp only [cond_false,depNums,hn]
theorem ready1_same (l:List Dep) (d:Dep):(ready1 l d).Id=d.Id/\(ready1 l d).Ino=d.Ino/\(ready1 l d).Ptr=d.Ptr/\(ready1 l d).Block=d.Block/\(ready1 l d).Slot=d.Slot/\(ready1 l d).Name=d.Name/\(ready1 l d).After=d.After/\(ready1 l d).Blocks=d.Blocks:=by
 simp only [ready1]
 cases ((d.Kind==1)&&d.Bits)&&d.Other<;>simp only [cond_true,cond_false] <;>
  cases (((d.Kind==2)&&d.Bits)&&d.Other)&&(!pending l d.Block)<;>simp
theorem readyD_len (l:List Dep):∀ (s:List Dep) (y:List Bool),(s.foldl (readyD l) y).length=y.length
 | [],y=>rfl
 | d::s,y=>by
  rw [List.foldl_cons,readyD_len l s]
  simp only [readyD]
  cases ((d.Kind==1)&&d.Bits)&&d.Other<;>simp only [cond_true,cond_false,markD_len]
  cases (((d.Kind==2)&&d.Bits)&&d.Other)&&(!pending l d.Block)<;>simp only [cond_true,cond_false,markD_len]
theorem MemT.ready {m:Mem} (h:MemT m):MemT (Soft.ready m):=by
 refine ⟨h.d,(readyD_len _ _ _).trans h.dy,?_,h.n1,h.n2,?_,?_,?_⟩
 ·simp only [Soft.ready,List.length_map]; exact h.dp
 ·intro x hx
  simp only [Soft.ready,List.mem_map] at hx
  obtain ⟨d,hd,rfl⟩:=hx
  exact ready1_num rfl _ (h.num d hd)
 ·intro x hx
  simp only [Soft.ready,List.mem_map] at hx
  obtain ⟨d,hd,rfl⟩:=hx
  rw [(ready1_same _ d).2.2.2.2.2.2.2]; exact h.bs d hd
 ·intro x hx
  simp only [Soft.ready,List.mem_map] at hx
  obtain ⟨d,hd,rfl⟩:=hx
  have:=ready1_same m.Deps d
  simp only [SzDep,this.2.2.2.2.2.1,this.2.2.2.2.2.2.2]; exact h.sz d hd
theorem MemT.clean {m:Mem} (h:MemT m) (u:Int):MemT (Soft.clean u m):=h.dirty (List.length_set.trans h.dy)
theorem Done_eq {n:Nat} (hn:FUEL<=n) (m:Mem) (hm:SzMem m) (u:Int) (k:Mem->Option R) :
  s_Done n m u k=k (done m u)/\(done m u=m\/(memOk m=true/\MemT (done m u))):=by
 have hn':100000000<=n:=hn
 simp only [s_Done,done,In_eq]
 rw [l08Copy_eq hn m hm,MemOk_eq hn m hm]
 cases hok:memOk m with
 | false=>exact ⟨rfl,.inl rfl⟩
 | true =>
 cases hw:within u 0 20 with
 | false=>exact ⟨rfl,.inl rfl⟩
 | true =>
 have hT:=(memOk_iff.1 hok).t hm
 have hdp:=hT.dp
 rw [within_iff] at hw
 simp only [Bool.not_true,Bool.not_false,cond_true,cond_false,Bool.or_false,Bool.and_true]
 rw [chk_of (by simp only [inR,Bool.and_eq_true,decide_eq_true_eq]; have:=hT.dy; omega),l10Flag_eq hn u ⟨m.Disk,m.Dirty.set u.toNat false,m.Deps,m.Next⟩ hm.dp]
 have h2:MemT (flag u (clean u m)):=(hT.clean u).flag u
 have loop:=loop_foldI (R:=R) (S:=Mem) (L:=fun mm i acc=>s_Done_l8 n u m.Deps (fun v v_1 v_2 v_3 v_4 v_5 v_6=>s_l10Ready n ⟨⟨⟨v_1,v_2⟩,v_3,v_4⟩,v_5,v_6,v⟩ fun mo_1=>k mo_1) mm i acc.Next acc.Disk.Bits.Blocks acc.Disk.Bits.Inos acc.Disk.Inodes acc.Disk.Blocks acc.Dirty acc.Deps)
  (l:=m.Deps) dDep MemT (g:=doneStep u) (q:=fun o=>s_l10Ready n o k) (B:=0) (by omega)
  (fun mm i acc _ hlt ha=>by
   have hmem:=getD_mem dDep hlt
   have hx:=depNums_ino (hT.num _ hmem)
   have hbs:=hT.bs _ hmem
   have hsz:=hT.sz _ hmem
   generalize hel:m.Deps.getD i dDep=el at hx hbs hsz
   simp only [s_Done_l8,lt_nat,inR_nat,hlt,decide_true,chk_t,cond_true,Int.toNat_natCast,UnitOfIno_eq,UnitOfBlock_eq,doneStep,hel]
   have e6:((el.Kind==6)&&((bif el.Kind==6 then unitOfIno el.Ino else 0)==u))=((el.Kind==6)&&(unitOfIno el.Ino==u)):=by cases el.Kind==6<;>rfl
   have e5:((el.Kind==5)&&((bif el.Kind==5 then unitOfIno el.Ino else 0)==u))=((el.Kind==5)&&(unitOfIno el.Ino==u)):=by cases el.Kind==5<;>rfl
   have e3:((el.Kind==3)&&((bif el.Kind==3 then unitOfBlock el.Block else 0)==u))=((el.Kind==3)&&(unitOfBlock el.Block==u)):=by cases el.Kind==3<;>rfl
   have e4:(((el.Kind==4)&&(el.After==0))&&((bif (el.Kind==4)&&(el.After==0) then unitOfBlock el.Block else 0)==u))=(((el.Kind==4)&&(el.After==0))&&(unitOfBlock el.Block==u)):=by cases (el.Kind==4)&&(el.After==0)<;>rfl
   rw [e6,e5,e3,e4]
   cases h6:(el.Kind==6)&&(unitOfIno el.Ino==u) with
   | true=>simp only [cond_true]; exact ⟨DropDep_eq hn acc ha.szm _ _,ha.drop _⟩
   | false =>
   simp only [cond_false]
   cases h5:(el.Kind==5)&&(unitOfIno el.Ino==u) with
   | true =>
    have:=fun k=>l10Freed_eq (R:=R) hn el acc ha hx (fun p hp=>within_iff.1 (List.all_eq_true.1 hbs p hp)) hsz.2 k
    simp only [cond_true]
    exact ⟨(this _).1,(this fun _=>none).2⟩
   | false =>
   simp only [cond_false]
   cases h3:(el.Kind==3)&&(unitOfBlock el.Block==u) with
   | true=>simp only [cond_true]; exact ⟨l10Shown_eq hn acc ha.szm _ _ _,ha.shown _ _ (Int.le_refl 0) (by have:=ha.n1; omega)⟩
   | false =>
   simp only [cond_false]
   cases h4:((el.Kind==4)&&(el.After==0))&&(unitOfBlock el.Block==u) with
   | true =>
    have hd:=ha.drop el.Id
    simp only [cond_true]
    refine ⟨?_,hd.lose hx.1 hx.2⟩
    refine (DropDep_eq hn acc ha.szm _ _).trans ?_
    exact l10Lose_eqT hn hd hx.1 hx.2 _
   | false=>exact ⟨rfl,ha⟩)
  (fun mm acc=>by simp [s_Done_l8]) m.Deps.length 0 n (flag u (clean u m)) (by omega) (by omega) h2
 rw [List.drop_zero] at loop
 refine ⟨?_,.inr ⟨trivial,loop.2.ready⟩⟩
 refine loop.1.trans ?_
 exact l10Ready_eq hn _ (Nat.le_trans loop.2.dp (by decide)) k
def moreLink (m:Mem) (i:Int):Mem:=⟨inoSet m.Disk i ⟨(inoAt m.Disk i).Kind,(inoAt m.Disk i).Links+1,(inoAt m.Disk i).Ptrs⟩,markD (unitOfIno i) m.Dirty,m.Deps,m.Next⟩
def movePut (m:Mem) (f:Int×Int×Int) (t:Mem×Int):Mem×Int:=bif t.2==0 then (m,4) else (nameGone t.1 f.1 f.2.1 t.2,0)
def moveFound (m:Mem) (f:Int×Int×Int) (w:Int) (to name q:ByteArray):Mem×Int :=
 bif (f.2.2==0)||(w==0) then (m,1) else
 bif (!((inoAt m.Disk f.2.2).Kind==1))||(!((inoAt m.Disk w).Kind==2)) then (m,3) else
 bif !(walkPath m.Disk q==0) then (m,2) else
 bif waits m w name||deep m to then (m,5) else
 bif !room m then (m,4) else
 bif decide (200<=(inoAt m.Disk f.2.2).Links) then (m,5) else
 movePut m f (putName (moreLink m f.2.2) w name f.2.2)
def moveFile (m:Mem) (p q:ByteArray):Mem×Int :=
 bif ((!memOk m)||(!(splitDir p).2.2))||(!(splitDir q).2.2) then (m,6) else
 moveFound m (find m.Disk (walkPath m.Disk (splitDir p).1) (splitDir p).2.1) (walkPath m.Disk (splitDir q).1) (splitDir q).1 (splitDir q).2.1 q
def writeBack (f:Fs) (u:Int):Fs×Bool :=
 bif (!fsOk f)||(!(imageUnit f.Mem u).2) then (f,false) else
 bif !(writeUnit f.Device u (imageUnit f.Mem u).1).2 then (f,false) else (⟨done f.Mem u,(writeUnit f.Device u (imageUnit f.Mem u).1).1⟩,true)
end Go.Soft
namespace Go.Soft
open Go
def I8 (i:Int):Prop:=1<=i/\i<=8
def B16 (p:Int):Prop:=1<=p/\p<=16
def ptrO (d:Disk) (i:Int) (k:Nat):Int:=(inoAt d i).Ptrs.getD k 0
def kindO (d:Disk) (i:Int):Int:=(inoAt d i).Kind
def linkO (d:Disk) (i:Int):Int:=(inoAt d i).Links
def slO (d:Disk) (p:Int) (s:Nat):Slot:=(blkAt d p).Slots.getD s dSlot
def bitB (d:Disk) (p:Int):Bool:=d.Bits.Blocks.getD (p-1).toNat false
def bitI (d:Disk) (i:Int):Bool:=d.Bits.Inos.getD (i-1).toNat false
def Own (d:Disk) (p:Int):Prop:=∃ i k,I8 i/\kindO d i=2/\ptrO d i k=p
def ownB (d:Disk) (p:Int):Bool:=d.Inodes.any fun x=>x.Kind==2&&has x.Ptrs p
def cntIn (b:Block) (j:Int):Nat:=b.Slots.countP (·.Ino==j)
def cntAt (d:Disk) (j p:Int):Nat:=bif ownB d p then cntIn (blkAt d p) j else 0
def cnt (d:Disk) (j:Int):Nat:=((List.range' 1 16).map fun q:Nat=>cntAt d j q).sum
def rems (l:List Dep) (j:Int):Nat:=l.countP fun d=>d.Kind==4&&d.Ino==j
theorem getD_set {α:Type} (l:List α) (i j:Nat) (x d:α):(l.set i x).getD j d=if j=i/\i<l.length then x else l.getD j d:=by
 simp only [List.getD_eq_getElem?_getD,List.getElem?_set]
 by_cases h:i=j
 ·subst h
  by_cases h2:i<l.length
  ·simp [h2]
  ·simp [h2]
 ·simp [h,Ne.symm h]
theorem inoAt_inoSet {d:Disk} (h:d.Inodes.length=8) {i j:Int} (hi:I8 i) (hj:I8 j) (x:Inode):inoAt (inoSet d i x) j=if j=i then x else inoAt d j:=by
 simp only [inoAt,inoSet,getD_set,h]
 obtain ⟨a,b⟩:=hi; obtain ⟨a',b'⟩:=hj
 by_cases hh:j=i
 ·subst hh; simp; omega
 ·rw [if_neg (by omega),if_neg hh]
theorem blkAt_blkSet {d:Disk} (h:d.Blocks.length=16) {p q:Int} (hp:B16 p) (hq:B16 q) (b:Block):blkAt (blkSet d p b) q=if q=p then b else blkAt d q:=by
 simp only [blkAt,blkSet,getD_set,h]
 obtain ⟨a,b⟩:=hp; obtain ⟨a',b'⟩:=hq
 by_cases hh:q=p
 ·subst hh; simp; omega
 ·rw [if_neg (by omega),if_neg hh]
theorem has_iff {l:List Int} {x:Int}:has l x=true↔x∈l:=by simp [has]
theorem mem_getD {l:List Int} {x:Int} (hx:x≠0):x∈l↔∃ k,l.getD k 0=x:=by
 constructor
 ·intro h
  obtain ⟨k,hk,rfl⟩:=List.mem_iff_getElem.1 h
  exact ⟨k,getD_get _ _ hk⟩
 ·rintro ⟨k,rfl⟩
  by_cases hk:k<l.length
  ·exact getD_mem 0 hk
  ·exact absurd (by simp [List.getD_eq_getElem?_getD,List.getElem?_eq_none (Nat.le_of_not_lt hk)]) hx
theorem I8.mem {d:Disk} (h:d.Inodes.length=8) {x:Inode}:x∈d.Inodes↔∃ i,I8 i/\inoAt d i=x:=by
 constructor
 ·intro hx
  obtain ⟨k,hk,rfl⟩:=List.mem_iff_getElem.1 hx
  refine ⟨(k:Int)+1,⟨by omega,by omega⟩,?_⟩
  simp only [inoAt]
  rw [show ((k:Int)+1-1).toNat=k by omega]
  exact getD_get _ _ hk
 ·rintro ⟨i,⟨a,b⟩,rfl⟩
  exact getD_mem _ (by omega)
theorem own_iff {d:Disk} (h:d.Inodes.length=8) {p:Int} (hp:p≠0):ownB d p=true↔Own d p:=by
 simp only [ownB,List.any_eq_true,Bool.and_eq_true,beq_iff_eq,has_iff,Own]
 constructor
 ·rintro ⟨x,hx,hk,hm⟩
  obtain ⟨i,hi,rfl⟩:=(I8.mem h).1 hx
  obtain ⟨k,hk'⟩:=(mem_getD hp).1 hm
  exact ⟨i,k,hi,hk,hk'⟩
 ·rintro ⟨i,k,hi,hk,hm⟩
  exact ⟨_,(I8.mem h).2 ⟨i,hi,rfl⟩,hk,(mem_getD hp).2 ⟨k,hm⟩⟩
theorem sum_congr {l:List Nat} {f g:Nat->Nat} (h:∀ q∈l,f q=g q):(l.map f).sum=(l.map g).sum:=by rw [List.map_congr_left h]
theorem sum_one {f g:Nat->Nat} {p:Nat}:∀ {l:List Nat},l.Nodup->p∈l->(∀ q∈l,q≠p->f q=g q)->(l.map f).sum+g p=(l.map g).sum+f p
 | [],_,hp,_=>by cases hp
 | x::l,hn,hp,h=>by
  simp only [List.map_cons,List.sum_cons]
  obtain ⟨h1,h2⟩:=List.nodup_cons.1 hn
  by_cases hx:x=p
  ·subst hx
   have:(l.map f).sum=(l.map g).sum:=sum_congr fun q hq=>h q (List.mem_cons_of_mem _ hq) (by rintro rfl; exact h1 hq)
   omega
  ·have hp':p∈l:=by
    cases hp with
    | head=>exact absurd rfl hx
    | tail _ h=>exact h
   have:=sum_one h2 hp' fun q hq=>h q (List.mem_cons_of_mem _ hq)
   have:=h x List.mem_cons_self hx
   omega
theorem cnt_congr {d d':Disk} {j:Int} (h:∀ p,B16 p->cntAt d' j p=cntAt d j p):cnt d' j=cnt d j :=
 sum_congr fun q hq=>h q (by simp [List.mem_range'] at hq; exact ⟨by omega,by omega⟩)
theorem cnt_one {d d':Disk} {j p:Int} (hp:B16 p) (h:∀ q,B16 q->q≠p->cntAt d' j q=cntAt d j q):cnt d' j+cntAt d j p=cnt d j+cntAt d' j p:=by
 obtain ⟨p1,p2⟩:=hp
 have:=sum_one (f:=fun q:Nat=>cntAt d' j q) (g:=fun q:Nat=>cntAt d j q) (p:=p.toNat) (l:=List.range' 1 16) List.nodup_range' (by rw [List.mem_range'_1]; omega)
  (fun q hq hne=>h q (by simp [List.mem_range'] at hq; exact ⟨by omega,by omega⟩) (by omega))
 simp only [Int.toNat_of_nonneg (show 0<=p by omega)] at this
 exact this
theorem sum_zero {f:Nat->Nat}:∀ {l:List Nat},(l.map f).sum=0↔∀ q∈l,f q=0
 | []=>by simp
 | x::l=>by simp [sum_zero (l:=l)]
theorem cntIn_zero {b:Block} {j:Int}:cntIn b j=0↔∀ s∈b.Slots,s.Ino≠j:=by simp [cntIn]
theorem cnt_zero {d:Disk} {j:Int}:cnt d j=0↔∀ p,B16 p->ownB d p=true->∀ s∈(blkAt d p).Slots,s.Ino≠j:=by
 simp only [cnt,sum_zero]
 constructor
 ·intro h p hp ho
  have:=h p.toNat (by rw [List.mem_range'_1]; obtain ⟨a,b⟩:=hp; omega)
  rw [Int.toNat_of_nonneg (by obtain ⟨a,b⟩:=hp; omega)] at this
  simp only [cntAt,ho,cond_true] at this
  exact cntIn_zero.1 this
 ·intro h q hq
  have hq':B16 (q:Int):=by simp [List.mem_range'] at hq; exact ⟨by omega,by omega⟩
  simp only [cntAt]
  cases ho:ownB d q with
  | false=>rfl
  | true=>exact cntIn_zero.2 (h q hq' ho)
theorem countP_set {α:Type} (P:α->Bool) (x d:α):∀ (l:List α) (i:Nat),i<l.length->(l.set i x).countP P+(bif P (l.getD i d) then 1 else 0)=l.countP P+(bif P x then 1 else 0)
 | [],i,h=>by simp at h
 | y::l,0,h=>by
  simp only [List.set_cons_zero,List.countP_cons,List.getD_cons_zero]
  cases P x<;>cases P y<;>simp
 | y::l,i+1,h=>by
  have:=countP_set P x d l i (by simpa using h)
  simp only [List.set_cons_succ,List.countP_cons,List.getD_cons_succ]
  omega
theorem cntIn_set {b:Block} {s:Nat} (hs:s<b.Slots.length) (x:Slot) (j:Int):cntIn (slotSet b s x) j+(if (b.Slots.getD s dSlot).Ino=j then 1 else 0)=cntIn b j+(if x.Ino=j then 1 else 0):=by
 have:=countP_set (fun s:Slot=>s.Ino==j) x dSlot b.Slots s hs
 simp only [cntIn,slotSet]
 have e:∀ y:Slot,(bif y.Ino==j then 1 else 0)=(if y.Ino=j then 1 else 0):=fun y=>by
  by_cases h:y.Ino=j
  ·simp [h]
  ·rw [beq_eq_false_iff_ne.2 h]; simp [h]
 rw [e,e] at this
 exact this
structure DG (d:Disk):Prop where
 one:∀ i k j l,I8 i->I8 j->ptrO d i k=ptrO d j l->ptrO d i k≠0->i=j/\k=l
 bm:∀ i k,I8 i->ptrO d i k≠0->bitB d (ptrO d i k)=true
 imk:∀ i,I8 i->kindO d i≠0->bitI d i=true
 pk:∀ i k,I8 i->ptrO d i k≠0->((blkAt d (ptrO d i k)).Dir=true↔kindO d i=2)
 nm:∀ p s,B16 p->Own d p->(slO d p s).Ino≠0->kindO d (slO d p s).Ino≠0/\(slO d p s).Ino≠1
 ne:∀ i k s,I8 i->i≠1->kindO d i=2->cnt d i=0->ptrO d i k≠0->(slO d (ptrO d i k) s).Ino=0
 dl:∀ j,I8 j->kindO d j=2->linkO d j=1
 rt:kindO d 1=2
 un:∀ i k l s t,I8 i->kindO d i=2->ptrO d i k≠0->ptrO d i l≠0->(slO d (ptrO d i k) s).Ino≠0->(slO d (ptrO d i k) s).Name=(slO d (ptrO d i l) t).Name->k=l/\s=t
 rk:∃ r:Int->Nat,r 1=0/\∀ i k s,I8 i->kindO d i=2->ptrO d i k≠0->(slO d (ptrO d i k) s).Ino≠0->kindO d (slO d (ptrO d i k) s).Ino=2->r (slO d (ptrO d i k) s).Ino=r i+1/\r i<4
structure Gd (e:Int) (X:List Int) (m:Mem):Prop where
 R:MemR m
 sz:∀ d∈m.Deps,SzDep d
 g:DG m.Disk
 fr:∀ d∈m.Deps,d.Kind=5->kindO m.Disk d.Ino=0/\bitI m.Disk d.Ino=true/\d.Blocks.Nodup/\∀ p∈d.Blocks,bitB m.Disk p=true/\∀ i k,I8 i->ptrO m.Disk i k≠p
 frp:m.Deps.Pairwise fun a b=>a.Kind=5->b.Kind=5->a.Ino≠b.Ino/\∀ p∈a.Blocks,p∉b.Blocks
 lk:∀ j,I8 j->j≠1->kindO m.Disk j≠0->linkO m.Disk j=(cnt m.Disk j:Int)+rems m.Deps j+(if e=j then 1 else 0)
 lk0:∀ j,I8 j->kindO m.Disk j=0->rems m.Deps j=0/\e≠j
 rt:rems m.Deps 1=0/\e≠1
 nd:∀ d∈m.Deps,d.Kind=2\/d.Kind=3->Own m.Disk d.Block
 rd:∀ d∈m.Deps,d.Kind=4->slO m.Disk d.Block d.Slot.toNat=dSlot/\(Own m.Disk d.Block\/d.Block∈X\/∃ f∈m.Deps,f.Kind=5/\d.Block∈f.Blocks)
 us:m.Deps.Pairwise fun a b=>isNm a=true->isNm b=true->a.Block=b.Block->a.Slot≠b.Slot
 af:∀ d∈m.Deps,d.Kind=4->d.After≠0->∃ x∈m.Deps,x.Id=d.After/\(x.Kind=2\/x.Kind=3)/\x.Ino=d.Ino
theorem Gd.T {e:Int} {X:List Int} {m:Mem} (h:Gd e X m):MemT m :=
 h.R.t ⟨h.R.d.t.sz,by rw [h.R.dy]; decide,Nat.le_trans h.R.dp (by decide),h.sz⟩
theorem Gd.dirty {e:Int} {X:List Int} {m:Mem} (h:Gd e X m) {y:List Bool} (hy:y.length=21):Gd e X ⟨m.Disk,y,m.Deps,m.Next⟩ :=
 ⟨h.R.dirty hy,h.sz,h.g,h.fr,h.frp,h.lk,h.lk0,h.rt,h.nd,h.rd,h.us,h.af⟩
theorem DiskT.ptr {d:Disk} (h:DiskT d) {i:Int} (hi:I8 i) (k:Nat):(k<=1/\B16 (ptrO d i k))\/ptrO d i k=0:=by
 have h1:=h.inoR hi.1 hi.2
 by_cases hk:k<(inoAt d i).Ptrs.length
 ·have h2:=inodeOk_len h1
  simp only [inodeOk,Bool.and_eq_true,List.all_eq_true] at h1
  have:=(h1.2.2.2.1 _ (getD_mem 0 hk)).1
  rw [within_iff] at this
  by_cases h0:ptrO d i k=0
  ·exact .inr h0
  ·exact .inl ⟨by omega,by simp only [ptrO] at h0 ⊢; constructor<;>omega⟩
 ·exact .inr (by simp [ptrO,List.getD_eq_getElem?_getD,List.getElem?_eq_none (Nat.le_of_not_lt hk)])
theorem DiskT.slot {d:Disk} (h:DiskT d) {p:Int} (hp:B16 p) (s:Nat):slO d p s=dSlot\/(s<=3/\(blkAt d p).Dir=true/\slotS (slO d p s)=true):=by
 have h1:=h.blkR hp.1 hp.2
 by_cases hs:s<(blkAt d p).Slots.length
 ·cases hd:(blkAt d p).Dir with
  | false=>simp only [blockS,hd,cond_false,Bool.and_eq_true,beq_iff_eq] at h1; omega
  | true=>exact .inr ⟨by have:=blockS_len h1 hd; omega,rfl,blockS_slot h1 hd (getD_mem dSlot hs)⟩
 ·exact .inl (by simp [slO,List.getD_eq_getElem?_getD,List.getElem?_eq_none (Nat.le_of_not_lt hs)])
theorem slotS_iff {s:Slot} (h:slotS s=true):s=⟨eS,0⟩\/(nameOk s.Name=true/\I8 s.Ino):=by
 obtain ⟨n,i⟩:=s
 simp only [slotS,Bool.or_eq_true,Bool.and_eq_true,beq_iff_eq,within_iff] at h
 rcases h with ⟨rfl,rfl⟩ | ⟨a,b⟩
 ·exact .inl rfl
 ·exact .inr ⟨a,b⟩
theorem dSlot_eq:dSlot=⟨eS,0⟩:=rfl
theorem DiskT.slot' {d:Disk} (h:DiskT d) {p:Int} (hp:B16 p) (s:Nat):slO d p s=dSlot\/(s<=3/\(blkAt d p).Dir=true/\nameOk (slO d p s).Name=true/\I8 (slO d p s).Ino):=by
 rcases h.slot hp s with h | ⟨h1,h2,h3⟩
 ·exact .inl h
 ·rcases slotS_iff h3 with h | ⟨a,b⟩
  ·exact .inl h
  ·exact .inr ⟨h1,h2,a,b⟩
theorem own_same {d d':Disk} (hk:∀ i,I8 i->kindO d' i=kindO d i) (hp:∀ i k,I8 i->ptrO d' i k=ptrO d i k) (p:Int):Own d' p↔Own d p:=by
 constructor
 ·rintro ⟨i,k,hi,h1,h2⟩; exact ⟨i,k,hi,by rw [← hk i hi]; exact h1,by rw [← hp i k hi]; exact h2⟩
 ·rintro ⟨i,k,hi,h1,h2⟩; exact ⟨i,k,hi,by rw [hk i hi]; exact h1,by rw [hp i k hi]; exact h2⟩
theorem ownB_same {d d':Disk} (h8:d.Inodes.length=8) (h8':d'.Inodes.length=8) {p:Int} (hp:p≠0) (h:Own d' p↔Own d p):ownB d' p=ownB d p:=by
 rw [Bool.eq_iff_iff,own_iff h8 hp,own_iff h8' hp,h]
theorem blkAt_same {d d':Disk} (hb:d'.Blocks=d.Blocks) (p:Int):blkAt d' p=blkAt d p:=by simp only [blkAt,hb]
theorem slO_same {d d':Disk} (hb:d'.Blocks=d.Blocks) (p:Int) (s:Nat):slO d' p s=slO d p s:=by simp only [slO,blkAt_same hb]
theorem cnt_same {d d':Disk} (h8:d.Inodes.length=8) (h8':d'.Inodes.length=8) (hk:∀ i,I8 i->kindO d' i=kindO d i) (hp:∀ i k,I8 i->ptrO d' i k=ptrO d i k) (hb:d'.Blocks=d.Blocks) (j:Int):cnt d' j=cnt d j :=
 cnt_congr fun p hp'=>by
  simp only [cntAt,blkAt_same hb]
  rw [ownB_same h8 h8' (by obtain ⟨a,b⟩:=hp'; omega) (own_same hk hp p)]
theorem DG.same {d d':Disk} (T:DiskT d) (g:DG d) (h8:d'.Inodes.length=8) (hb:d'.Blocks=d.Blocks) (hk:∀ i,I8 i->kindO d' i=kindO d i) (hp:∀ i k,I8 i->ptrO d' i k=ptrO d i k)
  (hl:∀ i,I8 i->kindO d i=2->linkO d' i=linkO d i) (hm:∀ i k,I8 i->ptrO d i k≠0->bitB d' (ptrO d i k)=true) (hi:∀ i,I8 i->kindO d i≠0->bitI d' i=true):DG d':=by
 have ho:=own_same hk hp
 have hs:=slO_same hb
 have hc:=cnt_same T.di h8 hk hp hb
 have hB:∀ i k,I8 i->ptrO d i k≠0->B16 (ptrO d i k):=fun i k hi h0=>((T.ptr hi k).resolve_right h0).2
 have hI:∀ p s,B16 p->(slO d p s).Ino≠0->I8 (slO d p s).Ino:=fun p s hp h0=>by
  rcases T.slot' hp s with h | h
  ·rw [h] at h0; exact absurd rfl h0
  ·exact h.2.2.2
 refine ⟨?_,?_,?_,?_,?_,?_,?_,?_,?_,?_⟩
 ·intro i k j l hi hj; rw [hp i k hi,hp j l hj]; exact g.one i k j l hi hj
 ·intro i k hi; rw [hp i k hi]; exact hm i k hi
 ·intro i h1; rw [hk i h1]; exact hi i h1
 ·intro i k h1; rw [hp i k h1,hk i h1,blkAt_same hb]; exact g.pk i k h1
 ·intro p s h1 h2 h3; rw [hs] at h3 ⊢; rw [ho] at h2; rw [hk _ (hI p s h1 h3)]; exact g.nm p s h1 h2 h3
 ·intro i k s h1 h2 h3 h4 h5; rw [hp i k h1] at h5 ⊢; rw [hs]; rw [hk i h1] at h3; rw [hc] at h4; exact g.ne i k s h1 h2 h3 h4 h5
 ·intro j h1 h2; rw [hk j h1] at h2; rw [hl j h1 h2]; exact g.dl j h1 h2
 ·rw [hk 1 ⟨by omega,by omega⟩]; exact g.rt
 ·intro i k l s t h1 h2 h3 h4; rw [hp i k h1] at h3 ⊢; rw [hp i l h1] at h4 ⊢; rw [hk i h1] at h2; rw [hs,hs]; exact g.un i k l s t h1 h2 h3 h4
 ·obtain ⟨r,r1,r2⟩:=g.rk
  refine ⟨r,r1,fun i k s h1 h2 h3 h4 h5=> ?_⟩
  rw [hp i k h1] at h3 h4 h5 ⊢; rw [hs] at h4 h5 ⊢; rw [hk i h1] at h2; rw [hk _ (hI _ s (hB i k h1 h3) h4)] at h5
  exact r2 i k s h1 h2 h3 h4 h5
end Go.Soft
namespace Go.Soft
open Go
variable {e:Int} {X:List Int} {m:Mem}
theorem rems_filter {l:List Dep} {P:Dep->Bool} (h:∀ d∈l,d.Kind=4->P d=true) (j:Int):rems (l.filter P) j=rems l j:=by
 simp only [rems,List.countP_filter]
 apply List.countP_congr
 intro d hd
 constructor
 ·intro h1; simp only [Bool.and_eq_true] at h1 ⊢; exact h1.1
 ·intro h1
  have h2:d.Kind=4:=by simp only [Bool.and_eq_true,beq_iff_eq] at h1; exact h1.1
  simp only [Bool.and_eq_true] at h1 ⊢
  exact ⟨h1,h d hd h2⟩
theorem Gd.sub (h:Gd e X m) {P:Dep->Bool} (hP:∀ d∈m.Deps,d.Kind≠1->d.Kind≠6->P d=true):Gd e X ⟨m.Disk,m.Dirty,m.Deps.filter P,m.Next⟩:=by
 have hs:=List.filter_sublist (p:=P) (l:=m.Deps)
 have hr:=rems_filter (l:=m.Deps) (P:=P) fun d hd h4=>hP d hd (by omega) (by omega)
 refine ⟨h.R.less hs,fun d hd=>h.sz d (hs.subset hd),h.g,fun d hd=>h.fr d (hs.subset hd),h.frp.sublist hs,?_,?_,?_,fun d hd=>h.nd d (hs.subset hd),?_,h.us.sublist hs,?_⟩
 ·intro j; rw [hr]; exact h.lk j
 ·intro j; rw [hr]; exact h.lk0 j
 ·rw [hr]; exact h.rt
 ·intro d hd h4
  obtain ⟨a,b⟩:=h.rd d (hs.subset hd) h4
  refine ⟨a,?_⟩
  rcases b with b | b | ⟨f,hf,hf5,hfb⟩
  ·exact .inl b
  ·exact .inr (.inl b)
  ·exact .inr (.inr ⟨f,List.mem_filter.2 ⟨hf,hP f hf (by omega) (by omega)⟩,hf5,hfb⟩)
 ·intro d hd h4 h0
  obtain ⟨x,hx,a,b,c⟩:=h.af d (hs.subset hd) h4 h0
  exact ⟨x,List.mem_filter.2 ⟨hx,hP x hx (by omega) (by omega)⟩,a,b,c⟩
theorem ids_eq {l:List Dep} (hp:l.Pairwise fun a b=>¬ a.Id=b.Id):∀ {a b:Dep},a∈l->b∈l->a.Id=b.Id->a=b:=by
 induction l with
 | nil=>intro a b ha; cases ha
 | cons x l ih =>
  rw [List.pairwise_cons] at hp
  intro a b ha hb he
  rcases List.mem_cons.1 ha with h1 | h1<;>rcases List.mem_cons.1 hb with h2 | h2
  ·rw [h1,h2]
  ·rw [h1] at he; exact absurd he (hp.1 b h2)
  ·rw [h2] at he; exact absurd he.symm (hp.1 a h1)
  ·exact ih hp.2 h1 h2 he
theorem count_drop {l:List Dep} (hp:l.Pairwise fun a b=>¬ a.Id=b.Id) {d:Dep} (hd:d∈l) (P:Dep->Bool):(l.filter fun x=> !(x.Id==d.Id)).countP P+(bif P d then 1 else 0)=l.countP P:=by
 induction l with
 | nil=>cases hd
 | cons x l ih =>
  rw [List.pairwise_cons] at hp
  rcases List.mem_cons.1 hd with rfl | hd'
  ·have:l.filter (fun y=> !(y.Id==d.Id))=l:=List.filter_eq_self.2 fun y hy=>by
    have:=hp.1 y hy
    simp; exact fun h=>this h.symm
   simp only [List.filter_cons,beq_self_eq_true,Bool.not_true,Bool.false_eq_true,if_false,this,List.countP_cons]
   cases P d<;>rfl
  ·have hne:(x.Id==d.Id)=false:=by simpa using hp.1 d hd'
   have:=ih hp.2 hd'
   simp only [List.filter_cons,hne,Bool.not_false,if_true,List.countP_cons]
   omega
theorem drop_mem {l:List Dep} {x:Dep} {id:Int}:x∈l.filter (fun x=> !(x.Id==id))↔x∈l/\x.Id≠id:=by simp [List.mem_filter]
theorem Gd.dropRem (h:Gd 0 X m) {d:Dep} (hd:d∈m.Deps) (h4:d.Kind=4):Gd d.Ino X (dropDep m d.Id):=by
 have hs:=List.filter_sublist (p:=fun x:Dep=> !(x.Id==d.Id)) (l:=m.Deps)
 have hI:=depNums_ino (h.R.num d hd)
 have hr:∀ j,rems (m.Deps.filter fun x=> !(x.Id==d.Id)) j+(if d.Ino=j then 1 else 0)=rems m.Deps j:=fun j=>by
  have:=count_drop h.R.ids hd (fun x=>x.Kind==4&&x.Ino==j)
  refine Eq.trans ?_ this
  show rems _ j+_=rems _ j+_
  congr 1
  by_cases hj:d.Ino=j
  ·simp [h4,hj]
  ·rw [if_neg hj,beq_eq_false_iff_ne.2 hj,Bool.and_false]; rfl
 have hk:kindO m.Disk d.Ino≠0:=fun h0=>by
  have:=(h.lk0 d.Ino hI h0).1
  have h2:=hr d.Ino
  simp at h2; omega
 have h1:d.Ino≠1:=fun h0=>by
  have:=h.rt.1
  have h2:=hr d.Ino
  rw [h0] at h2; simp at h2; omega
 refine ⟨h.R.drop d.Id,fun d hd=>h.sz d (hs.subset hd),h.g,fun d hd=>h.fr d (hs.subset hd),h.frp.sublist hs,?_,?_,?_,fun d hd=>h.nd d (hs.subset hd),?_,h.us.sublist hs,?_⟩
 ·intro j hj hj1 hkj
  have e1:=h.lk j hj hj1 hkj
  have e2:=hr j
  obtain ⟨a,b⟩:=hj
  rw [if_neg (by omega)] at e1
  show linkO m.Disk j=(cnt m.Disk j:Int)+(rems (m.Deps.filter fun x=> !(x.Id==d.Id)) j:Nat)+_
  rw [e1,← e2]
  split<;>simp<;>omega
 ·intro j hj hkj
  have e1:=(h.lk0 j hj hkj).1
  have e2:=hr j
  refine ⟨?_,fun hh=>hk (hh▸hkj)⟩
  show rems (m.Deps.filter fun x=> !(x.Id==d.Id)) j=0
  omega
 ·have e1:=h.rt.1
  have e2:=hr 1
  refine ⟨?_,h1⟩
  show rems (m.Deps.filter fun x=> !(x.Id==d.Id)) 1=0
  omega
 ·intro x hx hx4
  obtain ⟨a,b⟩:=h.rd x (hs.subset hx) hx4
  refine ⟨a,?_⟩
  rcases b with b | b | ⟨f,hf,hf5,hfb⟩
  ·exact .inl b
  ·exact .inr (.inl b)
  ·exact .inr (.inr ⟨f,drop_mem.2 ⟨hf,fun hh=>by have:=ids_eq h.R.ids hf hd hh; subst this; omega⟩,hf5,hfb⟩)
 ·intro x hx hx4 h0
  obtain ⟨y,hy,a,b,c⟩:=h.af x (hs.subset hx) hx4 h0
  exact ⟨y,drop_mem.2 ⟨hy,fun hh=>by have:=ids_eq h.R.ids hy hd hh; subst this; omega⟩,a,b,c⟩
structure Turn (f:Dep->Dep):Prop where
 same:∀ d,(f d).Id=d.Id/\(f d).Ino=d.Ino/\(f d).Ptr=d.Ptr/\(f d).Block=d.Block/\(f d).Slot=d.Slot/\(f d).Name=d.Name/\(f d).After=d.After/\(f d).Blocks=d.Blocks
 kind:∀ d,(f d).Kind=d.Kind\/(d.Kind=1/\(f d).Kind=6)\/(d.Kind=2/\(f d).Kind=3)
theorem Turn.eq4 {f:Dep->Dep} (h:Turn f) (d:Dep):((f d).Kind=4↔d.Kind=4)/\((f d).Kind=5↔d.Kind=5)/\(((f d).Kind=2\/(f d).Kind=3)↔(d.Kind=2\/d.Kind=3))/\(((f d).Kind=1\/(f d).Kind=6)↔(d.Kind=1\/d.Kind=6)):=by
 rcases h.kind d with h | h | h<;>(refine ⟨?_,?_,?_,?_⟩<;>constructor<;>intro<;>omega)
theorem isNm_iff {d:Dep}:isNm d=true↔d.Kind=2\/d.Kind=3\/d.Kind=4:=by
 simp only [isNm,Bool.or_eq_true,beq_iff_eq,or_assoc]
theorem Turn.nm {f:Dep->Dep} (h:Turn f) (d:Dep):isNm (f d)=true↔isNm d=true:=by
 rw [isNm_iff,isNm_iff]
 rcases h.kind d with h | h | h<;>constructor<;>intro<;>omega
theorem MemR.turn {f:Dep->Dep} (ht:Turn f) (h:MemR m):MemR ⟨m.Disk,m.Dirty,m.Deps.map f,m.Next⟩:=by
 refine ⟨h.d,h.dy,by simpa using h.dp,h.n1,h.n2,?_,?_,?_,?_⟩
 ·intro x hx
  obtain ⟨d,hd,rfl⟩:=List.mem_map.1 hx
  have h1:=h.num d hd
  obtain ⟨a1,a2,a3,a4,a5,a6,a7,a8⟩:=ht.same d
  simp only [depNums,Bool.and_eq_true,within_iff,a1,a2,a3,a4,a5,a7] at h1 ⊢
  have:=ht.kind d
  refine ⟨h1.1,by omega,h1.2.2⟩
 ·intro x hx
  obtain ⟨d,hd,rfl⟩:=List.mem_map.1 hx
  rw [(ht.same d).2.2.2.2.2.2.2]; exact h.bs d hd
 ·intro x hx
  obtain ⟨d,hd,rfl⟩:=List.mem_map.1 hx
  have h1:=h.knd d hd
  obtain ⟨a1,a2,a3,a4,a5,a6,a7,a8⟩:=ht.same d
  obtain ⟨k4,k5,k2,k1⟩:=ht.eq4 d
  have e1:(((f d).Kind==1)||((f d).Kind==6))=((d.Kind==1)||(d.Kind==6)):=by rw [Bool.eq_iff_iff]; simpa using k1
  have e2:(((f d).Kind==2)||((f d).Kind==3))=((d.Kind==2)||(d.Kind==3)):=by rw [Bool.eq_iff_iff]; simpa using k2
  have e4:((f d).Kind==4)=(d.Kind==4):=by rw [Bool.eq_iff_iff]; simpa using k4
  simp only [depKind,e1,e2,e4,a2,a3,a4,a5,a6] at h1 ⊢
  exact h1
 ·rw [List.pairwise_map]
  exact h.ids.imp fun {a b} hab=>by rw [(ht.same a).1,(ht.same b).1]; exact hab
theorem rems_turn {f:Dep->Dep} (ht:Turn f) (l:List Dep) (j:Int):rems (l.map f) j=rems l j:=by
 simp only [rems,List.countP_map]
 apply List.countP_congr
 intro d _
 have:=(ht.eq4 d).1
 simp [this,(ht.same d).2.1]
theorem Gd.turn {f:Dep->Dep} (ht:Turn f) (h:Gd e X m):Gd e X ⟨m.Disk,m.Dirty,m.Deps.map f,m.Next⟩:=by
 have hr:=rems_turn ht m.Deps
 refine ⟨h.R.turn ht,?_,h.g,?_,?_,?_,?_,?_,?_,?_,?_,?_⟩
 ·intro x hx
  obtain ⟨d,hd,rfl⟩:=List.mem_map.1 hx
  obtain ⟨a1,a2,a3,a4,a5,a6,a7,a8⟩:=ht.same d
  simp only [SzDep,a6,a8]; exact h.sz d hd
 ·intro x hx h5
  obtain ⟨d,hd,rfl⟩:=List.mem_map.1 hx
  obtain ⟨a1,a2,a3,a4,a5,a6,a7,a8⟩:=ht.same d
  rw [a2,a8]; exact h.fr d hd ((ht.eq4 d).2.1.1 h5)
 ·rw [List.pairwise_map]
  exact h.frp.imp fun {a b} hab ha hb=>by
   rw [(ht.same a).2.1,(ht.same b).2.1,(ht.same a).2.2.2.2.2.2.2,(ht.same b).2.2.2.2.2.2.2]
   exact hab ((ht.eq4 a).2.1.1 ha) ((ht.eq4 b).2.1.1 hb)
 ·intro j; rw [hr]; exact h.lk j
 ·intro j; rw [hr]; exact h.lk0 j
 ·rw [hr]; exact h.rt
 ·intro x hx h2
  obtain ⟨d,hd,rfl⟩:=List.mem_map.1 hx
  rw [(ht.same d).2.2.2.1]; exact h.nd d hd ((ht.eq4 d).2.2.1.1 h2)
 ·intro x hx h4
  obtain ⟨d,hd,rfl⟩:=List.mem_map.1 hx
  rw [(ht.same d).2.2.2.1,(ht.same d).2.2.2.2.1]
  obtain ⟨a,b⟩:=h.rd d hd ((ht.eq4 d).1.1 h4)
  refine ⟨a,?_⟩
  rcases b with b | b | ⟨f',hf,hf5,hfb⟩
  ·exact .inl b
  ·exact .inr (.inl b)
  ·exact .inr (.inr ⟨f f',List.mem_map_of_mem hf,(ht.eq4 f').2.1.2 hf5,by rw [(ht.same f').2.2.2.2.2.2.2]; exact hfb⟩)
 ·rw [List.pairwise_map]
  exact h.us.imp fun {a b} hab ha hb=>by
   rw [(ht.same a).2.2.2.1,(ht.same b).2.2.2.1,(ht.same a).2.2.2.2.1,(ht.same b).2.2.2.2.1]
   exact hab ((ht.nm a).1 ha) ((ht.nm b).1 hb)
 ·intro x hx h4 h0
  obtain ⟨d,hd,rfl⟩:=List.mem_map.1 hx
  rw [(ht.same d).2.2.2.2.2.2.1] at h0 ⊢
  rw [(ht.same d).2.1]
  obtain ⟨y,hy,a,b,c⟩:=h.af d hd ((ht.eq4 d).1.1 h4) h0
  exact ⟨f y,List.mem_map_of_mem hy,by rw [(ht.same y).1]; exact a,(ht.eq4 y).2.2.1.2 b,by rw [(ht.same y).2.1]; exact c⟩
end Go.Soft
namespace Go.Soft
open Go
variable {e:Int} {X:List Int} {m:Mem} {d:Disk}
theorem kindO_inoSet (h:d.Inodes.length=8) {i j:Int} (hi:I8 i) (hj:I8 j) (x:Inode):kindO (inoSet d i x) j=if j=i then x.Kind else kindO d j:=by
 simp only [kindO,inoAt_inoSet h hi hj]; split<;>rfl
theorem linkO_inoSet (h:d.Inodes.length=8) {i j:Int} (hi:I8 i) (hj:I8 j) (x:Inode):linkO (inoSet d i x) j=if j=i then x.Links else linkO d j:=by
 simp only [linkO,inoAt_inoSet h hi hj]; split<;>rfl
theorem ptrO_inoSet (h:d.Inodes.length=8) {i j:Int} (hi:I8 i) (hj:I8 j) (x:Inode) (k:Nat):ptrO (inoSet d i x) j k=if j=i then x.Ptrs.getD k 0 else ptrO d j k:=by
 simp only [ptrO,inoAt_inoSet h hi hj]; split<;>rfl
theorem DiskT.ptrB (T:DiskT d) {i:Int} {k:Nat} (hi:I8 i) (h:ptrO d i k≠0):B16 (ptrO d i k):=((T.ptr hi k).resolve_right h).2
theorem DiskT.inoI (T:DiskT d) {p:Int} {s:Nat} (hp:B16 p) (h:(slO d p s).Ino≠0):I8 (slO d p s).Ino:=by
 rcases T.slot' hp s with h1 | h1
 ·rw [h1] at h; exact absurd rfl h
 ·exact h1.2.2.2
theorem DiskT.slMem (T:DiskT d) {p:Int} (hp:B16 p) {x:Slot} (hx:x∈(blkAt d p).Slots):∃ s,s<=3/\slO d p s=x:=by
 obtain ⟨s,hs,rfl⟩:=List.mem_iff_getElem.1 hx
 have h1:=T.blkR hp.1 hp.2
 refine ⟨s,?_,getD_get _ _ hs⟩
 cases hd:(blkAt d p).Dir with
 | false=>simp only [blockS,hd,cond_false,Bool.and_eq_true,beq_iff_eq] at h1; omega
 | true=>have:=blockS_len h1 hd; omega
theorem DiskT.cnt0 (T:DiskT d) {j:Int} (hj:j≠0):cnt d j=0↔∀ p s,B16 p->Own d p->(slO d p s).Ino≠j:=by
 rw [cnt_zero]
 constructor
 ·intro h p s hp ho he
  rcases T.slot' hp s with h1 | h1
  ·rw [h1] at he; exact hj he.symm
  ·refine h p hp ((own_iff T.di (by obtain ⟨a,b⟩:=hp; omega)).2 ho) _ ?_ he
   refine getD_mem _ ?_
   have:=blockS_len (T.blkR hp.1 hp.2) h1.2.1
   omega
 ·intro h p hp ho x hx
  obtain ⟨s,_,rfl⟩:=T.slMem hp hx
  exact h p s hp ((own_iff T.di (by obtain ⟨a,b⟩:=hp; omega)).1 ho)
theorem dead_own (T:DiskT d) {i:Int} (hi:I8 i) (p:Int):(Own (inoSet d i (inodeNew 0)) p->Own d p)/\(Own d p->Own (inoSet d i (inodeNew 0)) p\/∃ k,kindO d i=2/\ptrO d i k=p):=by
 constructor
 ·rintro ⟨j,k,hj,h1,h2⟩
  rw [kindO_inoSet T.di hi hj] at h1; rw [ptrO_inoSet T.di hi hj] at h2
  by_cases h:j=i
  ·rw [if_pos h] at h1; exact absurd h1 (by decide)
  ·rw [if_neg h] at h1 h2; exact ⟨j,k,hj,h1,h2⟩
 ·rintro ⟨j,k,hj,h1,h2⟩
  by_cases h:j=i
  ·subst h; exact .inr ⟨k,h1,h2⟩
  ·refine .inl ⟨j,k,hj,?_,?_⟩
   ·rw [kindO_inoSet T.di hi hj,if_neg h]; exact h1
   ·rw [ptrO_inoSet T.di hi hj,if_neg h]; exact h2
theorem dead_ptr (T:DiskT d) {i j:Int} (hi:I8 i) (hj:I8 j) (k:Nat):ptrO (inoSet d i (inodeNew 0)) j k=if j=i then 0 else ptrO d j k:=by
 rw [ptrO_inoSet T.di hi hj]
 split
 ·match k with
  | 0=>rfl
  | 1=>rfl
  | k+2=>rfl
 ·rfl
theorem dead_cnt (T:DiskT d) {i:Int} (hi:I8 i) (he:∀ k s,kindO d i=2->ptrO d i k≠0->(slO d (ptrO d i k) s).Ino=0) {j:Int} (hj:j≠0):cnt (inoSet d i (inodeNew 0)) j=cnt d j:=by
 refine cnt_congr fun p hp=> ?_
 have hp0:p≠0:=by obtain ⟨a,b⟩:=hp; omega
 obtain ⟨h1,h2⟩:=dead_own T hi p
 have hl:(inoSet d i (inodeNew 0)).Inodes.length=8:=List.length_set.trans T.di
 simp only [cntAt]
 rw [show blkAt (inoSet d i (inodeNew 0)) p=blkAt d p from rfl]
 cases hb:ownB d p with
 | false =>
  have:ownB (inoSet d i (inodeNew 0)) p=false:=by
   rw [← Bool.not_eq_true,own_iff hl hp0]; intro h; have:=(own_iff T.di hp0).2 (h1 h); rw [hb] at this; cases this
  rw [this]
 | true =>
  rcases h2 ((own_iff T.di hp0).1 hb) with h | ⟨k,hk,rfl⟩
  ·rw [(own_iff hl hp0).2 h]
  ·cases ownB (inoSet d i (inodeNew 0)) (ptrO d i k) with
   | true=>rfl
   | false =>
    simp only [cond_true,cond_false]
    refine (cntIn_zero.2 fun x hx=> ?_).symm
    obtain ⟨s,_,rfl⟩:=T.slMem hp hx
    rw [he k s hk hp0]; exact hj.symm
theorem DG.dead (T:DiskT d) (g:DG d) {i:Int} (hi:I8 i) (h1:i≠1) (hc:cnt d i=0):DG (inoSet d i (inodeNew 0)):=by
 have hi0:i≠0:=by obtain ⟨a,b⟩:=hi; omega
 have he:∀ k s,kindO d i=2->ptrO d i k≠0->(slO d (ptrO d i k) s).Ino=0:=fun k s hk=>g.ne i k s hi h1 hk hc
 have hcc:=fun {j}=>dead_cnt T hi he (j:=j)
 have hk:=fun {j} (hj:I8 j)=>kindO_inoSet T.di hi hj (inodeNew 0)
 have hl:=fun {j} (hj:I8 j)=>linkO_inoSet T.di hi hj (inodeNew 0)
 have hp:=fun {j} (hj:I8 j)=>dead_ptr T hi hj
 have ho:=dead_own T hi
 have hs:∀ p s,slO (inoSet d i (inodeNew 0)) p s=slO d p s:=fun _ _=>rfl
 have c0:=(T.cnt0 hi0).1 hc
 refine ⟨?_,?_,?_,?_,?_,?_,?_,?_,?_,?_⟩
 ·intro a k b l ha hb; rw [hp ha,hp hb]
  split
  ·intro _ h; exact absurd rfl h
  ·split
   ·intro h h'; exact absurd h h'
   ·exact g.one a k b l ha hb
 ·intro a k ha; rw [hp ha]; split
  ·intro h; exact absurd rfl h
  ·exact g.bm a k ha
 ·intro a ha; rw [hk ha]; split
  ·intro h; exact absurd rfl h
  ·exact g.imk a ha
 ·intro a k ha; rw [hp ha,hk ha]; split
  ·intro h; exact absurd rfl h
  ·exact g.pk a k ha
 ·intro p s hB hO h; rw [hs] at h ⊢
  have h2:=(ho p).1 hO
  rw [hk (T.inoI hB h),if_neg (c0 p s hB h2)]
  exact g.nm p s hB h2 h
 ·intro a k s ha ha1 hka hca; rw [hk ha] at hka; rw [hp ha]
  by_cases h:a=i
  ·rw [if_pos h] at hka; exact absurd hka (by decide)
  ·rw [if_neg h] at hka ⊢; rw [hcc (by obtain ⟨x,y⟩:=ha; omega)] at hca
   exact g.ne a k s ha ha1 hka hca
 ·intro j hj hkj; rw [hk hj] at hkj; rw [hl hj]
  by_cases h:j=i
  ·rw [if_pos h] at hkj; exact absurd hkj (by decide)
  ·rw [if_neg h] at hkj ⊢; exact g.dl j hj hkj
 ·rw [hk ⟨by decide,by decide⟩,if_neg (Ne.symm h1)]; exact g.rt
 ·intro a k l s t ha hka; rw [hk ha] at hka; rw [hp ha,hp ha]
  by_cases h:a=i
  ·rw [if_pos h] at hka; exact absurd hka (by decide)
  ·rw [if_neg h] at hka; rw [if_neg h,if_neg h]; exact g.un a k l s t ha hka
 ·obtain ⟨r,r1,r2⟩:=g.rk
  refine ⟨r,r1,fun a k s ha hka=> ?_⟩
  rw [hk ha] at hka; rw [hp ha]
  by_cases h:a=i
  ·rw [if_pos h] at hka; exact absurd hka (by decide)
  ·rw [if_neg h] at hka; rw [if_neg h]
   intro h0 h3 h4
   rw [hs] at h3 h4 ⊢
   rw [hk (T.inoI (T.ptrB ha h0) h3),if_neg (c0 _ s (T.ptrB ha h0) ⟨a,k,ha,hka,rfl⟩)] at h4
   exact r2 a k s ha hka h0 h3 h4
theorem mayPut_iff:mayPut m=true↔m.Deps.length<40/\1<=m.Next/\m.Next<=99999:=by
 simp only [mayPut,Bool.and_eq_true,decide_eq_true_eq,within_iff]
theorem putDep_may (h:mayPut m=true) (x:Dep):putDep m x=(⟨m.Disk,m.Dirty,m.Deps++[{ x with Id:=m.Next }],m.Next+1⟩,m.Next):=by
 simp only [putDep,h,cond_true]
theorem lose_cases (hp:mayPut m=true) {i:Int} (hk:kindO m.Disk i≠0) (hl:0<linkO m.Disk i) :
  lose i m=if 1<linkO m.Disk i then ⟨inoSet m.Disk i ⟨kindO m.Disk i,linkO m.Disk i-1,(inoAt m.Disk i).Ptrs⟩,markD (unitOfIno i) m.Dirty,m.Deps,m.Next⟩ else
   ⟨inoSet m.Disk i (inodeNew 0),markD (unitOfIno i) m.Dirty,m.Deps.filter (stays i)++[⟨m.Next,5,i,0,0,0,eS,false,false,0,(inoAt m.Disk i).Ptrs.filter fun p=>decide (0<p)⟩],m.Next+1⟩:=by
 obtain ⟨a1,a2,a3⟩:=mayPut_iff.1 hp
 have hf:fewer (inoAt m.Disk i)=⟨kindO m.Disk i,linkO m.Disk i-1,(inoAt m.Disk i).Ptrs⟩:=by
  simp only [fewer]; rw [decide_eq_true (show 0<(inoAt m.Disk i).Links from hl)]; rfl
 have h1:(decide (40<=(m.Deps.length:Int))|| !within m.Next 1 99999)=false:=by
  rw [within_iff.2 ⟨a2,a3⟩,decide_eq_false (by omega)]; rfl
 simp only [lose,h1,cond_false,hf]
 have h2:(kindO m.Disk i==0)=false:=by simpa using hk
 rw [h2,Bool.or_false]
 by_cases h:1<linkO m.Disk i
 ·rw [if_pos h,decide_eq_true (by omega)]; rfl
 ·rw [if_neg h,decide_eq_false (by omega)]
  simp only [cond_false]
  rw [putDep_may]
  rw [mayPut_iff]
  exact ⟨Nat.lt_of_le_of_lt (List.length_filter_le _ _) a1,a2,a3⟩
theorem Gd.lose {i:Int} (h:Gd i X m) (hi:I8 i) (hp:mayPut m=true):Gd 0 X (Soft.lose i m):=by
 have T:=h.R.d.t
 have hi1:i≠1:=h.rt.2
 have hk:kindO m.Disk i≠0:=fun h0=>(h.lk0 i hi h0).2 rfl
 have hl:=h.lk i hi hi1 hk
 rw [if_pos rfl] at hl
 have hR:=h.R.lose hi.1 hi.2
 have hlose:=lose_cases hp hk (by omega)
 have hi0:¬ (0:Int)=i:=by obtain ⟨a,b⟩:=hi; omega
 by_cases hL:1<linkO m.Disk i
 ·rw [if_pos hL] at hlose
  rw [hlose] at hR ⊢
  have hkk:∀ j,I8 j->kindO (inoSet m.Disk i ⟨kindO m.Disk i,linkO m.Disk i-1,(inoAt m.Disk i).Ptrs⟩) j=kindO m.Disk j:=fun j hj=>by
   rw [kindO_inoSet T.di hi hj]; split
   ·next hh=>rw [hh]
   ·rfl
  have hpp:∀ j k,I8 j->ptrO (inoSet m.Disk i ⟨kindO m.Disk i,linkO m.Disk i-1,(inoAt m.Disk i).Ptrs⟩) j k=ptrO m.Disk j k:=fun j k hj=>by
   rw [ptrO_inoSet T.di hi hj]; split
   ·next hh=>rw [hh]; rfl
   ·rfl
  have h8:(inoSet m.Disk i ⟨kindO m.Disk i,linkO m.Disk i-1,(inoAt m.Disk i).Ptrs⟩).Inodes.length=8:=List.length_set.trans T.di
  have hO:=own_same hkk hpp
  have hc:=cnt_same T.di h8 hkk hpp rfl
  refine ⟨hR,h.sz,DG.same T h.g h8 rfl hkk hpp ?_ (fun a k ha h0=>h.g.bm a k ha h0) (fun a ha h0=>h.g.imk a ha h0),?_,h.frp,?_,?_,⟨h.rt.1,by decide⟩,?_,?_,h.us,h.af⟩
  ·intro j hj h2
   rw [linkO_inoSet T.di hi hj]
   split
   ·next hh=>subst hh; have:=h.g.dl j hj h2; omega
   ·rfl
  ·intro x hx h5
   obtain ⟨a1,a2,a3,a4⟩:=h.fr x hx h5
   refine ⟨(hkk _ (depNums_ino (h.R.num x hx))).trans a1,a2,a3,fun p hp=>⟨(a4 p hp).1,fun j k hj=>by rw [hpp j k hj]; exact (a4 p hp).2 j k hj⟩⟩
  ·intro j hj hj1 hkj
   rw [hkk j hj] at hkj
   rw [hc,linkO_inoSet T.di hi hj,if_neg (show ¬ (0:Int)=j by obtain ⟨a,b⟩:=hj; omega)]
   have:=h.lk j hj hj1 hkj
   by_cases hh:j=i
   ·rw [if_pos hh]; rw [if_pos hh.symm] at this; subst hh
    show linkO m.Disk j-1=(cnt m.Disk j:Int)+(rems m.Deps j:Nat)+0
    omega
   ·rw [if_neg hh]; rw [if_neg (fun q=>hh q.symm)] at this; exact this
  ·intro j hj hkj
   rw [hkk j hj] at hkj
   exact ⟨(h.lk0 j hj hkj).1,by obtain ⟨a,b⟩:=hj; omega⟩
  ·intro x hx h2; rw [hO]; exact h.nd x hx h2
  ·intro x hx h4
   obtain ⟨a,b⟩:=h.rd x hx h4
   exact ⟨a,b.imp_left (hO _).2⟩
 ·rw [if_neg hL] at hlose
  rw [hlose] at hR ⊢
  have hc:cnt m.Disk i=0:=by omega
  have hr:rems m.Deps i=0:=by omega
  have hi0':i≠0:=fun hh=>hi0 hh.symm
  have c0:=(T.cnt0 hi0').1 hc
  have he:∀ k s,kindO m.Disk i=2->ptrO m.Disk i k≠0->(slO m.Disk (ptrO m.Disk i k) s).Ino=0:=fun k s hk=>h.g.ne i k s hi hi1 hk hc
  have hkk:=fun {j} (hj:I8 j)=>kindO_inoSet T.di hi hj (inodeNew 0)
  have hll:=fun {j} (hj:I8 j)=>linkO_inoSet T.di hi hj (inodeNew 0)
  have hpp:=fun {j} (hj:I8 j)=>dead_ptr T hi hj
  have hO:=dead_own T hi
  have hcc:=fun {j}=>dead_cnt T hi he (j:=j)
  have hs:=List.filter_sublist (p:=stays i) (l:=m.Deps)
  have hst:∀ x:Dep,x.Kind≠1->x.Kind≠6->stays i x=true:=fun x h1 h6=>by
   simp only [stays]; rw [beq_eq_false_iff_ne.2 h1,beq_eq_false_iff_ne.2 h6]; rfl
  have hrem:∀ j,rems (m.Deps.filter (stays i)++[⟨m.Next,5,i,0,0,0,eS,false,false,0,(inoAt m.Disk i).Ptrs.filter fun p=>decide (0<p)⟩]) j=rems m.Deps j:=fun j=>by
   have:=rems_filter (l:=m.Deps) (P:=stays i) (fun x hx h4=>hst x (by omega) (by omega)) j
   rw [← this]
   simp [rems,List.countP_append]
  have hpl:(inoAt m.Disk i).Ptrs.length=2:=T.ptrs hi.1 hi.2
  have hpm:∀ p,p∈(inoAt m.Disk i).Ptrs.filter (fun p=>decide (0<p))↔p≠0/\∃ k,ptrO m.Disk i k=p:=fun p=>by
   rw [List.mem_filter,decide_eq_true_eq]
   constructor
   ·rintro ⟨a,b⟩; exact ⟨by omega,(mem_getD (by omega)).1 a⟩
   ·rintro ⟨a,k,hk⟩
    refine ⟨(mem_getD a).2 ⟨k,hk⟩,?_⟩
    rw [← hk] at a ⊢
    have:=T.ptrB hi a
    obtain ⟨b,c⟩:=this; omega
  have hmem:∀ {x},x∈m.Deps.filter (stays i)++[⟨m.Next,5,i,0,0,0,eS,false,false,0,(inoAt m.Disk i).Ptrs.filter fun p=>decide (0<p)⟩]->x∈m.Deps\/x=⟨m.Next,5,i,0,0,0,eS,false,false,0,(inoAt m.Disk i).Ptrs.filter fun p=>decide (0<p)⟩:=fun {x} hx=>by
   rcases List.mem_append.1 hx with hx | hx
   ·exact .inl (hs.subset hx)
   ·exact .inr (List.mem_singleton.1 hx)
  have hmem2:∀ {x},x∈m.Deps->x.Kind≠1->x.Kind≠6->x∈m.Deps.filter (stays i)++[⟨m.Next,5,i,0,0,0,eS,false,false,0,(inoAt m.Disk i).Ptrs.filter fun p=>decide (0<p)⟩]:=fun {x} hx h1 h6 =>
   List.mem_append_left _ (List.mem_filter.2 ⟨hx,hst x h1 h6⟩)
  refine ⟨hR,?_,h.g.dead T hi hi1 hc,?_,?_,?_,?_,?_,?_,?_,?_,?_⟩
  ·intro x hx
   rcases hmem hx with hx | rfl
   ·exact h.sz x hx
   ·exact ⟨by show eS.size<=LEN; decide,by show List.length _<=LEN; exact Nat.le_trans (List.length_filter_le _ _) (by rw [hpl]; decide)⟩
  ·intro x hx h5
   rcases hmem hx with hx | rfl
   ·obtain ⟨a1,a2,a3,a4⟩:=h.fr x hx h5
    refine ⟨?_,a2,a3,fun p hp=>⟨(a4 p hp).1,fun j k hj=> ?_⟩⟩
    ·show kindO (inoSet m.Disk i (inodeNew 0)) x.Ino=0
     rw [hkk (depNums_ino (h.R.num x hx))]; split
     ·rfl
     ·exact a1
    ·show ptrO (inoSet m.Disk i (inodeNew 0)) j k≠p
     rw [hpp hj]; split
     ·intro hh
      have:=within_iff.1 (List.all_eq_true.1 (h.R.bs x hx) p hp)
      omega
     ·exact (a4 p hp).2 j k hj
   ·refine ⟨?_,h.g.imk i hi hk,?_,fun p hp=> ?_⟩
    ·show kindO (inoSet m.Disk i (inodeNew 0)) i=0
     rw [hkk hi,if_pos rfl]; rfl
    ·show ((inoAt m.Disk i).Ptrs.filter fun p=>decide (0<p)).Nodup
     have h1:=h.g.one i 0 i 1 hi hi
     simp only [ptrO] at h1
     match hP:(inoAt m.Disk i).Ptrs,hpl with
     | [a,b],_ =>
      rw [hP] at h1
      simp only [List.getD_cons_zero,List.getD_cons_succ] at h1
      simp only [List.filter_cons,List.filter_nil]
      by_cases ha:0<a<;>by_cases hb:0<b<;>simp [ha,hb]
      intro hab
      have:=(h1 hab (by omega)).2
      omega
    ·obtain ⟨h0,k,hk'⟩:=(hpm p).1 hp
     refine ⟨?_,fun j l hj=> ?_⟩
     ·have:=h.g.bm i k hi (by rw [hk']; exact h0)
      rw [hk'] at this; exact this
     ·show ptrO (inoSet m.Disk i (inodeNew 0)) j l≠p
      rw [hpp hj]; split
      ·exact fun hh=>h0 hh.symm
      ·next hji=>intro hh; exact hji (h.g.one j l i k hj hi (hh.trans hk'.symm) (by rw [hh]; exact h0)).1
  ·rw [List.pairwise_append]
   refine ⟨h.frp.sublist hs,List.pairwise_singleton _ _,?_⟩
   intro a ha b hb h5 _
   rw [List.mem_singleton] at hb; subst hb
   obtain ⟨a1,a2,a3,a4⟩:=h.fr a (hs.subset ha) h5
   refine ⟨fun hh=>hk (by rw [← show a.Ino=i from hh]; exact a1),fun p hp hq=> ?_⟩
   obtain ⟨h0,k,hk'⟩:=(hpm p).1 hq
   exact (a4 p hp).2 i k hi hk'
  ·intro j hj hj1 hkj
   rw [hkk hj] at hkj
   by_cases hh:j=i
   ·rw [if_pos hh] at hkj; exact absurd rfl hkj
   ·rw [if_neg hh] at hkj
    rw [hrem,hcc (by obtain ⟨a,b⟩:=hj; omega),hll hj,if_neg hh,if_neg (show ¬ (0:Int)=j by obtain ⟨a,b⟩:=hj; omega)]
    have:=h.lk j hj hj1 hkj
    rw [if_neg (fun q=>hh q.symm)] at this; exact this
  ·intro j hj hkj
   rw [hrem]
   refine ⟨?_,by obtain ⟨a,b⟩:=hj; omega⟩
   rw [hkk hj] at hkj
   by_cases hh:j=i
   ·rw [hh]; exact hr
   ·rw [if_neg hh] at hkj; exact (h.lk0 j hj hkj).1
  ·rw [hrem]; exact ⟨h.rt.1,by decide⟩
  ·intro x hx h2
   rcases hmem hx with hx | rfl
   ·rcases (hO x.Block).2 (h.nd x hx h2) with h3 | ⟨k,h3,h4⟩
    ·exact h3
    ·have hkn:=h.R.knd x hx
     have e2:((x.Kind==2)||(x.Kind==3))=true:=by simpa using h2
     have e1:((x.Kind==1)||(x.Kind==6))=false:=by rw [Bool.or_eq_false_iff]; constructor<;>(rw [beq_eq_false_iff_ne]; omega)
     simp only [depKind,e1,e2,cond_true,cond_false,Bool.and_eq_true,decide_eq_true_eq,beq_iff_eq] at hkn
     have:=he k x.Slot.toNat h3 (by rw [h4]; omega)
     rw [h4] at this
     have h5:(slO m.Disk x.Block x.Slot.toNat).Ino=x.Ino:=hkn.2
     have:=depNums_ino (h.R.num x hx)
     omega
   ·exact absurd h2 (by show ¬ ((5:Int)=2\/(5:Int)=3); omega)
  ·intro x hx h4
   rcases hmem hx with hx | rfl
   ·obtain ⟨a,b⟩:=h.rd x hx h4
    refine ⟨a,?_⟩
    rcases b with b | b | ⟨f,hf,hf5,hfb⟩
    ·rcases (hO x.Block).2 b with h3 | ⟨k,h3,h5⟩
     ·exact .inl h3
     ·refine .inr (.inr ⟨_,List.mem_append_right _ (List.mem_singleton.2 rfl),rfl,(hpm _).2 ⟨?_,k,h5⟩⟩)
      have hkn:=h.R.knd x hx
      simp only [depKind,h4] at hkn
      simp at hkn; omega
    ·exact .inr (.inl b)
    ·exact .inr (.inr ⟨f,hmem2 hf (by omega) (by omega),hf5,hfb⟩)
   ·exact absurd h4 (by show ¬ (5:Int)=4; decide)
  ·rw [List.pairwise_append]
   refine ⟨h.us.sublist hs,List.pairwise_singleton _ _,?_⟩
   intro a ha b hb _ hn
   rw [List.mem_singleton] at hb; subst hb
   exact absurd hn (by show ¬ isNm ⟨m.Next,5,i,0,0,0,eS,false,false,0,_⟩=true; rw [isNm_iff]; simp)
  ·intro x hx h4 h0
   rcases hmem hx with hx | rfl
   ·obtain ⟨y,hy,a,b,c⟩:=h.af x hx h4 h0
    exact ⟨y,hmem2 hy (by omega) (by omega),a,b,c⟩
   ·exact absurd h4 (by show ¬ (5:Int)=4; decide)
theorem aftOf_same (id b:Int) (d:Dep):(aftOf id b d).Id=d.Id/\(aftOf id b d).Kind=d.Kind/\(aftOf id b d).Ino=d.Ino/\(aftOf id b d).Ptr=d.Ptr/\(aftOf id b d).Block=d.Block/\(aftOf id b d).Slot=d.Slot/\(aftOf id b d).Name=d.Name/\(aftOf id b d).Blocks=d.Blocks:=by
 simp only [aftOf]; cases (d.Kind==4)&&(d.After==id)<;>simp
theorem aftOf_after (id b:Int) {d:Dep} (h4:d.Kind=4):(aftOf id b d).After=if d.After=id then b else d.After:=by
 simp only [aftOf,h4]
 by_cases h:d.After=id
 ·simp [h]
 ·rw [if_neg h,beq_eq_false_iff_ne.2 h]; rfl
theorem shown_mem {id b:Int} {x:Dep}:x∈(shown id b m).Deps↔∃ y∈m.Deps,y.Id≠id/\aftOf id b y=x:=by
 simp only [shown,List.mem_map]
 constructor
 ·rintro ⟨y,hy,rfl⟩; exact ⟨y,(drop_mem.1 hy).1,(drop_mem.1 hy).2,rfl⟩
 ·rintro ⟨y,hy,h,rfl⟩; exact ⟨y,drop_mem.2 ⟨hy,h⟩,rfl⟩
theorem rems_shown {id b:Int} (hid:∀ y∈m.Deps,y.Id=id->y.Kind≠4) (j:Int):rems (shown id b m).Deps j=rems m.Deps j:=by
 have:rems (shown id b m).Deps j=rems (dropDep m id).Deps j:=by
  simp only [shown,rems,List.countP_map]
  apply List.countP_congr
  intro y _
  obtain ⟨_,a2,a3,_⟩:=aftOf_same id b y
  simp [a2,a3]
 rw [this]
 exact rems_filter (fun y hy h4=>by simpa using fun hh=>hid y hy hh h4) j
theorem MemR.shown' (h:MemR m) {id b:Int} (b0:0<=b) (b1:b<=m.Next-1):MemR (shown id b m):=by
 refine ⟨h.d,(aftDs_len _ _ _ _).trans h.dy,?_,h.n1,h.n2,?_,?_,?_,?_⟩
 ·simp only [shown,List.length_map]; exact Nat.le_trans (List.length_filter_le _ _) h.dp
 ·intro x hx
  obtain ⟨y,hy,_,rfl⟩:=shown_mem.1 hx
  have h1:=h.num y hy
  obtain ⟨a1,a2,a3,a4,a5,a6,a7,a8⟩:=aftOf_same id b y
  simp only [depNums,Bool.and_eq_true,within_iff,a1,a2,a3,a4,a5,a6] at h1 ⊢
  refine ⟨h1.1,h1.2.1,h1.2.2.1,h1.2.2.2.1,h1.2.2.2.2.1,h1.2.2.2.2.2.1,?_⟩
  show 0<=(aftOf id b y).After/\(aftOf id b y).After<=m.Next-1
  have:=h1.2.2.2.2.2.2
  simp only [aftOf]
  cases (y.Kind==4)&&(y.After==id)
  ·exact this
  ·exact ⟨b0,b1⟩
 ·intro x hx
  obtain ⟨y,hy,_,rfl⟩:=shown_mem.1 hx
  rw [(aftOf_same id b y).2.2.2.2.2.2.2]; exact h.bs y hy
 ·intro x hx
  obtain ⟨y,hy,_,rfl⟩:=shown_mem.1 hx
  obtain ⟨a1,a2,a3,a4,a5,a6,a7,a8⟩:=aftOf_same id b y
  have h1:=h.knd y hy
  simp only [depKind,a2,a3,a4,a5,a6,a7] at h1 ⊢; exact h1
 ·simp only [shown,List.pairwise_map]
  exact (h.ids.sublist List.filter_sublist).imp fun {a b'} hab=>by rw [(aftOf_same _ _ a).1,(aftOf_same _ _ b').1]; exact hab
theorem Gd.shown (h:Gd e X m) {x0:Dep} (hx0:x0∈m.Deps) (hk0:x0.Kind=2\/x0.Kind=3) {b:Int} (hb:b=0\/∃ x∈m.Deps,x.Id=b/\(x.Kind=2\/x.Kind=3)/\x.Ino=x0.Ino/\b≠x0.Id):Gd e X (Soft.shown x0.Id b m):=by
 have hid:∀ {y},y∈m.Deps->y.Id=x0.Id->y=x0:=fun hy he=>ids_eq h.R.ids hy hx0 he
 have hbn:0<=b/\b<=m.Next-1:=by
  rcases hb with rfl | ⟨x,hx,rfl,_⟩
  ·exact ⟨by decide,by have:=h.R.n1; omega⟩
  ·have:=h.R.num x hx
   simp only [depNums,Bool.and_eq_true,within_iff] at this
   exact ⟨by omega,this.1.2⟩
 have hr:=rems_shown (m:=m) (id:=x0.Id) (b:=b) fun y hy he=>by rw [hid hy he]; omega
 have hs:=List.filter_sublist (p:=fun x:Dep=> !(x.Id==x0.Id)) (l:=m.Deps)
 refine ⟨h.R.shown' hbn.1 hbn.2,?_,h.g,?_,?_,?_,?_,?_,?_,?_,?_,?_⟩
 ·intro x hx
  obtain ⟨y,hy,_,rfl⟩:=shown_mem.1 hx
  obtain ⟨a1,a2,a3,a4,a5,a6,a7,a8⟩:=aftOf_same x0.Id b y
  simp only [SzDep,a7,a8]; exact h.sz y hy
 ·intro x hx h5
  obtain ⟨y,hy,_,rfl⟩:=shown_mem.1 hx
  obtain ⟨a1,a2,a3,a4,a5,a6,a7,a8⟩:=aftOf_same x0.Id b y
  rw [a3,a8]; rw [a2] at h5; exact h.fr y hy h5
 ·simp only [Soft.shown,List.pairwise_map]
  exact (h.frp.sublist hs).imp fun {a c} hab ha hc=>by
   rw [(aftOf_same _ _ a).2.1] at ha; rw [(aftOf_same _ _ c).2.1] at hc
   rw [(aftOf_same _ _ a).2.2.1,(aftOf_same _ _ c).2.2.1,(aftOf_same _ _ a).2.2.2.2.2.2.2,(aftOf_same _ _ c).2.2.2.2.2.2.2]
   exact hab ha hc
 ·intro j; rw [hr]; exact h.lk j
 ·intro j; rw [hr]; exact h.lk0 j
 ·rw [hr]; exact h.rt
 ·intro x hx h2
  obtain ⟨y,hy,_,rfl⟩:=shown_mem.1 hx
  obtain ⟨a1,a2,a3,a4,a5,a6,a7,a8⟩:=aftOf_same x0.Id b y
  rw [a5]; rw [a2] at h2; exact h.nd y hy h2
 ·intro x hx h4
  obtain ⟨y,hy,_,rfl⟩:=shown_mem.1 hx
  obtain ⟨a1,a2,a3,a4,a5,a6,a7,a8⟩:=aftOf_same x0.Id b y
  rw [a2] at h4; rw [a5,a6]
  obtain ⟨a,c⟩:=h.rd y hy h4
  refine ⟨a,?_⟩
  rcases c with c | c | ⟨f,hf,hf5,hfb⟩
  ·exact .inl c
  ·exact .inr (.inl c)
  ·refine .inr (.inr ⟨aftOf x0.Id b f,shown_mem.2 ⟨f,hf,fun hh=>by rw [hid hf hh] at hf5; rcases hk0 with h | h<;>rw [h] at hf5<;>exact absurd hf5 (by decide),rfl⟩,?_,?_⟩)
   ·rw [(aftOf_same _ _ f).2.1]; exact hf5
   ·rw [(aftOf_same _ _ f).2.2.2.2.2.2.2]; exact hfb
 ·simp only [Soft.shown,List.pairwise_map]
  exact (h.us.sublist hs).imp fun {a c} hab ha hc=>by
   have n1:isNm (aftOf x0.Id b a)=isNm a:=by simp only [isNm,(aftOf_same _ _ a).2.1]
   have n2:isNm (aftOf x0.Id b c)=isNm c:=by simp only [isNm,(aftOf_same _ _ c).2.1]
   rw [n1] at ha; rw [n2] at hc
   rw [(aftOf_same _ _ a).2.2.2.2.1,(aftOf_same _ _ c).2.2.2.2.1,(aftOf_same _ _ a).2.2.2.2.2.1,(aftOf_same _ _ c).2.2.2.2.2.1]
   exact hab ha hc
 ·intro x hx h4 h0
  obtain ⟨y,hy,_,rfl⟩:=shown_mem.1 hx
  obtain ⟨a1,a2,a3,a4,a5,a6,a7,a8⟩:=aftOf_same x0.Id b y
  rw [a2] at h4
  rw [aftOf_after _ _ h4] at h0 ⊢
  rw [a3]
  by_cases hh:y.After=x0.Id
  ·rw [if_pos hh] at h0 ⊢
   rcases hb with rfl | ⟨w,hw,hxb,hxk,hxi,hne⟩
   ·exact absurd rfl h0
   ·obtain ⟨z,hz,z1,z2,z3⟩:=h.af y hy h4 (by
     rw [hh]
     have:=h.R.num x0 hx0
     simp only [depNums,Bool.and_eq_true,within_iff] at this
     omega)
    have:z=x0:=hid hz (z1.trans hh)
    subst this
    refine ⟨aftOf z.Id b w,shown_mem.2 ⟨w,hw,by rw [hxb]; exact hne,rfl⟩,?_,?_,?_⟩
    ·rw [(aftOf_same _ _ w).1]; exact hxb
    ·rw [(aftOf_same _ _ w).2.1]; exact hxk
    ·rw [(aftOf_same _ _ w).2.2.1,hxi]; exact z3
  ·rw [if_neg hh] at h0 ⊢
   obtain ⟨z,hz,z1,z2,z3⟩:=h.af y hy h4 h0
   refine ⟨aftOf x0.Id b z,shown_mem.2 ⟨z,hz,fun hq=>hh (z1.symm.trans hq),rfl⟩,?_,?_,?_⟩
   ·rw [(aftOf_same _ _ z).1]; exact z1
   ·rw [(aftOf_same _ _ z).2.1]; exact z2
   ·rw [(aftOf_same _ _ z).2.2.1]; exact z3
theorem Gd.T' (h:Gd e X m):DiskT m.Disk:=h.R.d.t
theorem Gd.putRem (h:Gd e X m) (hp:mayPut m=true) (he:e≠0) (hI:I8 e) {p s:Int} {nm:ByteArray} {b:Int} (p1:B16 p) (ho:Own m.Disk p) (hd:(blkAt m.Disk p).Dir=true) (s0:0<=s) (s1:s<=3) (hs:slO m.Disk p s.toNat=dSlot) (hn:nameOk nm=true)
  (hf:∀ x∈m.Deps,isNm x=true->x.Block=p->x.Slot≠s) (hb:b=0\/∃ x∈m.Deps,x.Id=b/\(x.Kind=2\/x.Kind=3)/\x.Ino=e) :
  Gd 0 X (putDep m ⟨0,4,e,0,p,s,nm,false,false,b,[]⟩).1:=by
 obtain ⟨a1,a2,a3⟩:=mayPut_iff.1 hp
 have hbn:0<=b/\b<=m.Next-1:=by
  rcases hb with rfl | ⟨x,hx,rfl,_⟩
  ·exact ⟨by decide,by omega⟩
  ·have:=h.R.num x hx
   simp only [depNums,Bool.and_eq_true,within_iff] at this
   exact ⟨by omega,this.1.2⟩
 obtain ⟨i1,i2⟩:=hI
 obtain ⟨p1',p2'⟩:=p1
 have hR:=h.R.put ⟨0,4,e,0,p,s,nm,false,false,b,[]⟩ (by
  simp only [depNums,Bool.and_eq_true,within_iff]
  refine ⟨⟨by omega,by omega⟩,⟨by decide,by decide⟩,⟨i1,i2⟩,⟨by decide,by decide⟩,⟨by omega,p2'⟩,⟨s0,s1⟩,hbn.1,by omega⟩) rfl (by
  simp only [depKind]
  simp only [show ((4:Int)==1)=false from rfl,show ((4:Int)==6)=false from rfl,show ((4:Int)==2)=false from rfl,show ((4:Int)==3)=false from rfl,show ((4:Int)==4)=true from rfl,Bool.or_false,cond_false,cond_true,hd,hn,Bool.and_true,decide_eq_true_eq]
  omega)
 rw [putDep_may hp] at hR ⊢
 have hmem:∀ {x},x∈m.Deps++[(⟨m.Next,4,e,0,p,s,nm,false,false,b,[]⟩:Dep)]->x∈m.Deps\/x=⟨m.Next,4,e,0,p,s,nm,false,false,b,[]⟩:=fun {x} hx=>by
  rcases List.mem_append.1 hx with hx | hx
  ·exact .inl hx
  ·exact .inr (List.mem_singleton.1 hx)
 have hrem:∀ j,rems (m.Deps++[(⟨m.Next,4,e,0,p,s,nm,false,false,b,[]⟩:Dep)]) j=rems m.Deps j+(if e=j then 1 else 0):=fun j=>by
  simp only [rems,List.countP_append,List.countP_singleton]
  by_cases hh:e=j
  ·simp [hh]
  ·rw [if_neg hh,beq_eq_false_iff_ne.2 hh]; simp
 refine ⟨hR,?_,h.g,?_,?_,?_,?_,?_,?_,?_,?_,?_⟩
 ·intro x hx
  rcases hmem hx with hx | rfl
  ·exact h.sz x hx
  ·exact ⟨Nat.le_trans (nameOk_size hn).2 (by decide),by show ([]:List Int).length<=LEN; decide⟩
 ·intro x hx h5
  rcases hmem hx with hx | rfl
  ·exact h.fr x hx h5
  ·exact absurd h5 (by show ¬ (4:Int)=5; decide)
 ·rw [List.pairwise_append]
  refine ⟨h.frp,List.pairwise_singleton _ _,?_⟩
  intro a _ c hc _ h5
  rw [List.mem_singleton] at hc; subst hc
  exact absurd h5 (by show ¬ (4:Int)=5; decide)
 ·intro j hj hj1 hkj
  rw [hrem,if_neg (show ¬ (0:Int)=j by obtain ⟨a,b⟩:=hj; omega)]
  have:=h.lk j hj hj1 hkj
  rw [this]; split<;>simp<;>omega
 ·intro j hj hkj
  have:=h.lk0 j hj hkj
  rw [hrem,if_neg this.2]
  exact ⟨this.1,by obtain ⟨a,b⟩:=hj; omega⟩
 ·have:=h.rt
  rw [hrem,if_neg this.2]; exact ⟨this.1,by decide⟩
 ·intro x hx h2
  rcases hmem hx with hx | rfl
  ·exact h.nd x hx h2
  ·exact ho
 ·intro x hx h4
  rcases hmem hx with hx | rfl
  ·obtain ⟨a,c⟩:=h.rd x hx h4
   refine ⟨a,?_⟩
   rcases c with c | c | ⟨f,hf,hf5,hfb⟩
   ·exact .inl c
   ·exact .inr (.inl c)
   ·exact .inr (.inr ⟨f,List.mem_append_left _ hf,hf5,hfb⟩)
  ·exact ⟨hs,.inl ho⟩
 ·rw [List.pairwise_append]
  refine ⟨h.us,List.pairwise_singleton _ _,?_⟩
  intro a ha c hc h1 _ h3
  rw [List.mem_singleton] at hc; subst hc
  exact hf a ha h1 h3
 ·intro x hx h4 h0
  rcases hmem hx with hx | rfl
  ·obtain ⟨y,hy,a,c⟩:=h.af x hx h4 h0
   exact ⟨y,List.mem_append_left _ hy,a,c⟩
  ·rcases hb with rfl | ⟨x,hx,c1,c2,c3⟩
   ·exact absurd rfl h0
   ·exact ⟨x,List.mem_append_left _ hx,c1,c2,c3⟩
theorem eS_size:eS.size=0:=rfl
theorem nameOk_ne {s:ByteArray} (h:nameOk s=true):s≠eS:=fun hh=>by
 have:=(nameOk_size h).1
 rw [hh,eS_size] at this; omega
theorem blockOk_dir {b:Block} (hd:b.Dir=true):blockOk b=true↔b.Slots.length=4/\b.Text=eS/\(∀ i,i<4->b.Slots.getD i dSlot=dSlot\/(nameOk (b.Slots.getD i dSlot).Name=true/\I8 (b.Slots.getD i dSlot).Ino)) /\
  ∀ i k,k<i->i<4->b.Slots.getD i dSlot≠dSlot->(b.Slots.getD k dSlot).Name≠(b.Slots.getD i dSlot).Name:=by
 have hz:∀ x:Slot,(x.Name==eS&&x.Ino==0)=true↔x=dSlot:=fun x=>by
  obtain ⟨n,i⟩:=x
  simp only [Bool.and_eq_true,beq_iff_eq,dSlot_eq,Slot.mk.injEq]
 simp only [blockOk,hd,cond_true,Bool.and_eq_true,beq_iff_eq,slotsB]
 constructor
 ·rintro ⟨⟨h1,h2⟩,h3⟩
  refine ⟨h1,h2,fun i hi=> ?_,fun i k hk hi hne=> ?_⟩
  ·have:=range_all h3 hi
   simp only [slotB,Bool.or_eq_true] at this
   rcases this with h | h
   ·exact .inl ((hz _).1 h)
   ·simp only [Bool.and_eq_true,within_iff] at h; exact .inr h.1
  ·have:=range_all h3 hi
   simp only [slotB,Bool.or_eq_true] at this
   rcases this with h | h
   ·exact absurd ((hz _).1 h) hne
   ·rw [Bool.and_eq_true] at h
    have:=range_all h.2 hk
    simpa using this
 ·rintro ⟨h1,h2,h3,h4⟩
  refine ⟨⟨h1,h2⟩,List.all_eq_true.2 fun i hi=> ?_⟩
  rw [List.mem_range'_1] at hi
  simp only [slotB,Bool.or_eq_true]
  by_cases h:b.Slots.getD i dSlot=dSlot
  ·exact .inl ((hz _).2 h)
  ·refine .inr ?_
   rw [Bool.and_eq_true]
   refine ⟨?_,List.all_eq_true.2 fun k hk=> ?_⟩
   ·simp only [Bool.and_eq_true,within_iff]; exact (h3 i (by omega)).resolve_left h
   ·rw [List.mem_range'_1] at hk
    simpa using h4 i k (by omega) (by omega) h
theorem blockOk_slotSet {b:Block} (h:blockOk b=true) (hd:b.Dir=true) {s:Nat} (hs:s<=3) {x:Slot} (hx:x=dSlot\/(nameOk x.Name=true/\I8 x.Ino)) (hu:x≠dSlot->∀ t,t≠s->(b.Slots.getD t dSlot).Name≠x.Name):blockOk (slotSet b s x)=true:=by
 obtain ⟨h1,h2,h3,h4⟩:=(blockOk_dir hd).1 h
 refine (blockOk_dir (b:=slotSet b s x) hd).2 ⟨List.length_set.trans h1,h2,fun i hi=> ?_,fun i k hk hi hne=> ?_⟩
 ·simp only [slotSet,getD_set,h1]
  split
  ·exact hx
  ·exact h3 i hi
 ·simp only [slotSet,getD_set,h1] at hne ⊢
  by_cases hi':i=s
  ·subst hi'
   rw [if_pos (c:=i=i/\i<4) ⟨rfl,by omega⟩] at hne ⊢
   rw [if_neg (c:=k=i/\i<4) (by omega)]
   exact hu hne k (by omega)
  ·rw [if_neg (c:=i=s/\s<4) (by omega)] at hne ⊢
   by_cases hk':k=s
   ·rw [if_pos (c:=k=s/\s<4) ⟨hk',by omega⟩]
    intro hh
    rcases hx with rfl | hx
    ·have:=(h3 i hi).resolve_left hne
     exact nameOk_ne this.1 hh.symm
    ·exact hu (fun hz=>by rw [hz] at hx; exact nameOk_ne hx.1 rfl) i hi' hh.symm
   ·rw [if_neg (c:=k=s/\s<4) (by omega)]; exact h4 i k hk hi hne
def slotIn (d:Disk) (p:Int) (s:Nat) (x:Slot):Disk:=blkSet d p (slotSet (blkAt d p) s x)
theorem slotIn_dir (T:DiskT d) {p:Int} (hp:B16 p) (s:Nat) (x:Slot) {q:Int} (hq:B16 q):(blkAt (slotIn d p s x) q).Dir=(blkAt d q).Dir:=by
 simp only [slotIn,blkAt_blkSet T.db hp hq]; split
 ·next h=>rw [h]; rfl
 ·rfl
theorem slotIn_sl (T:DiskT d) {p:Int} (hp:B16 p) (hd:(blkAt d p).Dir=true) {s:Nat} (hs:s<=3) (x:Slot) {q:Int} (hq:B16 q) (t:Nat):slO (slotIn d p s x) q t=if q=p/\t=s then x else slO d q t:=by
 have h4:=blockS_len (T.blkR hp.1 hp.2) hd
 simp only [slO,slotIn,blkAt_blkSet T.db hp hq]
 by_cases h:q=p
 ·subst h
  simp only [if_true,true_and,slotSet,getD_set,h4]
  by_cases ht:t=s
  ·rw [if_pos ⟨ht,by omega⟩,if_pos ht]
  ·rw [if_neg (by omega),if_neg ht]
 ·rw [if_neg h,if_neg (fun hh=>h hh.1)]
theorem slotIn_cnt (T:DiskT d) {p:Int} (hp:B16 p) (ho:Own d p) (hd:(blkAt d p).Dir=true) {s:Nat} (hs:s<=3) (x:Slot) (j:Int) :
  cnt (slotIn d p s x) j+(if (slO d p s).Ino=j then 1 else 0)=cnt d j+(if x.Ino=j then 1 else 0):=by
 have h4:=blockS_len (T.blkR hp.1 hp.2) hd
 have hp0:p≠0:=by obtain ⟨a,b⟩:=hp; omega
 have h1:=cnt_one (d:=d) (d':=slotIn d p s x) (j:=j) hp fun q hq hne=>by
  simp only [cntAt,slotIn,blkAt_blkSet T.db hp hq,if_neg hne]; rfl
 have ho':ownB d p=true:=(own_iff T.di hp0).2 ho
 have e1:cntAt d j p=cntIn (blkAt d p) j:=by simp only [cntAt,ho',cond_true]
 have e2:cntAt (slotIn d p s x) j p=cntIn (slotSet (blkAt d p) s x) j:=by
  have ho2:ownB (slotIn d p s x) p=true:=ho'
  simp only [cntAt,ho2,cond_true]
  simp only [slotIn,blkAt_blkSet T.db hp hp,if_true]
 have h2:=cntIn_set (b:=blkAt d p) (s:=s) (by omega) x j
 rw [e1,e2] at h1
 have h3:(slO d p s).Ino=((blkAt d p).Slots.getD s dSlot).Ino:=rfl
 rw [h3]
 omega
theorem DG.clear (T:DiskT d) (g:DG d) {p:Int} (hp:B16 p) (ho:Own d p) (hd:(blkAt d p).Dir=true) {s:Nat} (hs:s<=3) (hne:∀ k t,kindO d (slO d p s).Ino=2->ptrO d (slO d p s).Ino k≠0->(slO d (ptrO d (slO d p s).Ino k) t).Ino=0):DG (slotIn d p s dSlot):=by
 have hsl:=fun {q} (hq:B16 q) t=>slotIn_sl T hp hd hs dSlot hq t
 have hc:=slotIn_cnt T hp ho hd hs dSlot
 refine ⟨g.one,g.bm,g.imk,?_,?_,?_,g.dl,g.rt,?_,?_⟩
 ·intro i k hi h0
  show (blkAt (slotIn d p s dSlot) (ptrO d i k)).Dir=true↔_
  rw [slotIn_dir T hp s dSlot (T.ptrB hi h0)]; exact g.pk i k hi h0
 ·intro q t hq hoq; rw [hsl hq]
  split
  ·intro h; exact absurd rfl h
  ·exact g.nm q t hq hoq
 ·intro i k t hi hi1 hk hc0 h0
  show (slO (slotIn d p s dSlot) (ptrO d i k) t).Ino=0
  rw [hsl (T.ptrB hi h0)]
  split
  ·rfl
  ·have h1:=hc i
   have hd0:¬ dSlot.Ino=i:=by show ¬ (0:Int)=i; obtain ⟨a,b⟩:=hi; omega
   rw [hc0,if_neg hd0] at h1
   by_cases hh:(slO d p s).Ino=i
   ·subst hh; exact hne k t hk h0
   ·rw [if_neg hh] at h1; exact g.ne i k t hi hi1 hk (by omega) h0
 ·intro i k l a b hi hk h0 h0'
  show (slO (slotIn d p s dSlot) (ptrO d i k) a).Ino≠0->(slO (slotIn d p s dSlot) (ptrO d i k) a).Name=(slO (slotIn d p s dSlot) (ptrO d i l) b).Name->_
  rw [hsl (T.ptrB hi h0),hsl (T.ptrB hi h0')]
  split
  ·intro h; exact absurd rfl h
  ·split
   ·intro h1 h2
    rcases T.slot' (T.ptrB hi h0) a with h3 | h3
    ·rw [h3] at h1; exact absurd rfl h1
    ·exact absurd h2 (nameOk_ne h3.2.2.1)
   ·exact g.un i k l a b hi hk h0 h0'
 ·obtain ⟨r,r1,r2⟩:=g.rk
  refine ⟨r,r1,fun i k t hi hk h0=> ?_⟩
  show (slO (slotIn d p s dSlot) (ptrO d i k) t).Ino≠0->kindO d (slO (slotIn d p s dSlot) (ptrO d i k) t).Ino=2->r (slO (slotIn d p s dSlot) (ptrO d i k) t).Ino=_/\_
  rw [hsl (T.ptrB hi h0)]
  split
  ·intro h; exact absurd rfl h
  ·exact r2 i k t hi hk h0
def RK (d:Disk) (r:Int->Nat):Prop:=r 1=0/\∀ i k s,I8 i->kindO d i=2->ptrO d i k≠0->(slO d (ptrO d i k) s).Ino≠0->kindO d (slO d (ptrO d i k) s).Ino=2->r (slO d (ptrO d i k) s).Ino=r i+1/\r i<4
theorem DG.named (T:DiskT d) (g:DG d) {p:Int} (hp:B16 p) (hd:(blkAt d p).Dir=true) {w:Int} {kw:Nat} (hw:I8 w) (hkw:kindO d w=2) (hpw:ptrO d w kw=p) {s:Nat} (hs:s<=3) (h0:slO d p s=dSlot) {nm:ByteArray} {j:Int}
  (hn:nameOk nm=true) (hj:I8 j) (hj1:j≠1) (hkj:kindO d j≠0) (hcw:w=1\/cnt d w≠0) (hu:∀ l t,ptrO d w l≠0->(slO d (ptrO d w l) t).Name≠nm)
  (hr:kindO d j=2->(∀ k,ptrO d j k=0)/\cnt d j=0/\∀ r,RK d r->r w<4):DG (slotIn d p s ⟨nm,j⟩):=by
 have ho:Own d p:=⟨w,kw,hw,hkw,hpw⟩
 have hp0:p≠0:=by obtain ⟨a,b⟩:=hp; omega
 have hj0:j≠0:=by obtain ⟨a,b⟩:=hj; omega
 have hsl:=fun {q} (hq:B16 q) t=>slotIn_sl T hp hd hs ⟨nm,j⟩ hq t
 have hc:=slotIn_cnt T hp ho hd hs ⟨nm,j⟩
 have hone:∀ i k,I8 i->ptrO d i k=p->i=w/\k=kw:=fun i k hi hh=>g.one i k w kw hi hw (hh.trans hpw.symm) (by rw [hh]; exact hp0)
 refine ⟨g.one,g.bm,g.imk,?_,?_,?_,g.dl,g.rt,?_,?_⟩
 ·intro i k hi h0
  show (blkAt (slotIn d p s ⟨nm,j⟩) (ptrO d i k)).Dir=true↔_
  rw [slotIn_dir T hp s _ (T.ptrB hi h0)]; exact g.pk i k hi h0
 ·intro q t hq hoq; rw [hsl hq]
  split
  ·intro _; exact ⟨hkj,hj1⟩
  ·exact g.nm q t hq hoq
 ·intro i k t hi hi1 hk hc0 hz
  show (slO (slotIn d p s ⟨nm,j⟩) (ptrO d i k) t).Ino=0
  have h1:=hc i
  rw [hc0,h0,if_neg (show ¬ dSlot.Ino=i by show ¬ (0:Int)=i; obtain ⟨a,b⟩:=hi; omega)] at h1
  rw [hsl (T.ptrB hi hz)]
  split
  ·next hh =>
   have:=hone i k hi hh.1
   rcases hcw with h2 | h2
   ·exact absurd (this.1.trans h2) hi1
   ·rw [this.1] at h1; omega
  ·exact g.ne i k t hi hi1 hk (by omega) hz
 ·intro i k l a b hi hk hz hz'
  show (slO (slotIn d p s ⟨nm,j⟩) (ptrO d i k) a).Ino≠0->(slO (slotIn d p s ⟨nm,j⟩) (ptrO d i k) a).Name=(slO (slotIn d p s ⟨nm,j⟩) (ptrO d i l) b).Name->_
  rw [hsl (T.ptrB hi hz),hsl (T.ptrB hi hz')]
  split
  ·next h1 =>
   have e1:=hone i k hi h1.1
   split
   ·next h2=>intro _ _; have e2:=hone i l hi h2.1; exact ⟨e1.2.trans e2.2.symm,h1.2.trans h2.2.symm⟩
   ·intro _ h3; rw [e1.1] at h3 hz'; exact absurd h3.symm (hu l b hz')
  ·split
   ·next h2 =>
    have e2:=hone i l hi h2.1
    intro _ h3; rw [e2.1] at h3 hz; exact absurd h3 (hu k a hz)
   ·exact g.un i k l a b hi hk hz hz'
 ·obtain ⟨r,r1,r2⟩:=g.rk
  by_cases h2:kindO d j=2
  ·obtain ⟨q1,q2,q3⟩:=hr h2
   have q3:=q3 r ⟨r1,r2⟩
   have c0:=(T.cnt0 hj0).1 q2
   have hwj:w≠j:=fun hh=>by rw [← hh] at q1; rw [q1] at hpw; exact hp0 hpw.symm
   refine ⟨fun i=>if i=j then r w+1 else r i,by show (if (1:Int)=j then r w+1 else r 1)=0; rw [if_neg (Ne.symm hj1)]; exact r1,fun i k t hi hk hz=> ?_⟩
   have hij:i≠j:=fun hh=>by subst hh; exact hz (q1 k)
   show (slO (slotIn d p s ⟨nm,j⟩) (ptrO d i k) t).Ino≠0->kindO d (slO (slotIn d p s ⟨nm,j⟩) (ptrO d i k) t).Ino=2->(if (slO (slotIn d p s ⟨nm,j⟩) (ptrO d i k) t).Ino=j then r w+1 else r (slO (slotIn d p s ⟨nm,j⟩) (ptrO d i k) t).Ino)=(if i=j then r w+1 else r i)+1/\(if i=j then r w+1 else r i)<4
   rw [hsl (T.ptrB hi hz),if_neg hij]
   split
   ·next hh =>
    intro _ _
    have e1:=hone i k hi hh.1
    rw [if_pos rfl,e1.1]; exact ⟨rfl,q3⟩
   ·intro h3 h4
    rw [if_neg (c0 _ t (T.ptrB hi hz) ⟨i,k,hi,hk,rfl⟩)]
    exact r2 i k t hi hk hz h3 h4
  ·refine ⟨r,r1,fun i k t hi hk hz=> ?_⟩
   show (slO (slotIn d p s ⟨nm,j⟩) (ptrO d i k) t).Ino≠0->kindO d (slO (slotIn d p s ⟨nm,j⟩) (ptrO d i k) t).Ino=2->r (slO (slotIn d p s ⟨nm,j⟩) (ptrO d i k) t).Ino=r i+1/\r i<4
   rw [hsl (T.ptrB hi hz)]
   split
   ·intro _ h4; exact absurd h4 h2
   ·exact r2 i k t hi hk hz
theorem DG.ownDir (g:DG d) {p:Int} (ho:Own d p) (hp:p≠0):(blkAt d p).Dir=true:=by
 obtain ⟨i,k,hi,h1,h2⟩:=ho
 have:=(g.pk i k hi (by rw [h2]; exact hp)).2 h1
 rw [h2] at this; exact this
theorem depKind23 {x:Dep} (h:depKind m x=true) (hk:x.Kind=2\/x.Kind=3):0<x.Block/\(blkAt m.Disk x.Block).Dir=true/\(slO m.Disk x.Block x.Slot.toNat).Ino=x.Ino:=by
 have e2:((x.Kind==2)||(x.Kind==3))=true:=by simpa using hk
 have e1:((x.Kind==1)||(x.Kind==6))=false:=by rw [Bool.or_eq_false_iff]; constructor<;>(rw [beq_eq_false_iff_ne]; omega)
 simp only [depKind,e1,e2,cond_true,cond_false,Bool.and_eq_true,decide_eq_true_eq,beq_iff_eq] at h
 exact ⟨h.1.1,h.1.2,h.2⟩
theorem depKind4 {x:Dep} (h:depKind m x=true) (hk:x.Kind=4):0<x.Block/\(blkAt m.Disk x.Block).Dir=true/\nameOk x.Name=true:=by
 simp only [depKind,hk] at h
 simp at h
 exact ⟨h.1.1,h.1.2,h.2⟩
theorem depNums_all {x:Dep} (h:depNums m x=true):(1<=x.Id/\x.Id<=m.Next-1)/\(1<=x.Kind/\x.Kind<=6)/\I8 x.Ino/\(0<=x.Ptr/\x.Ptr<=1)/\(0<=x.Block/\x.Block<=16)/\(0<=x.Slot/\x.Slot<=3)/\(0<=x.After/\x.After<=m.Next-1):=by
 simp only [depNums,Bool.and_eq_true,within_iff] at h; exact h
theorem MemR.slotIn (h:MemR m) {p:Int} (hp:B16 p) (hd:(blkAt m.Disk p).Dir=true) {s:Int} (s0:0<=s) (s1:s<=3) {x:Slot} (hx:x=dSlot\/(nameOk x.Name=true/\I8 x.Ino)) (hu:x≠dSlot->∀ t,t≠s.toNat->(slO m.Disk p t).Name≠x.Name)
  (hf:∀ y∈m.Deps,isNm y=true->y.Block=p->y.Slot≠s):MemR ⟨Soft.slotIn m.Disk p s.toNat x,m.Dirty,m.Deps,m.Next⟩:=by
 refine h.setBlk hp.1 hp.2 (b:=slotSet (blkAt m.Disk p) s.toNat x) (blockOk_slotSet (h.d.blkR hp.1 hp.2) hd (by omega) hx hu) ?_ fun _ _ _ _=>hd
 intro y hy hk hb
 have hk':y.Kind=2\/y.Kind=3:=by simpa using hk
 have h1:=depKind23 (h.knd y hy) hk'
 refine ⟨hd,?_⟩
 have h2:=hf y hy (by rw [isNm_iff]; omega) hb
 have h3:=(depNums_all (h.num y hy)).2.2.2.2.2.1
 simp only [slotSet,getD_set]
 rw [if_neg (by omega),← hb,beq_iff_eq]
 exact h1.2.2
theorem Gd.clear (h:Gd 0 X m) {p s:Int} (hp:B16 p) (ho:Own m.Disk p) (s0:0<=s) (s1:s<=3) (hj:(slO m.Disk p s.toNat).Ino≠0) (hf:∀ y∈m.Deps,isNm y=true->y.Block=p->y.Slot≠s)
  (hne:∀ k t,kindO m.Disk (slO m.Disk p s.toNat).Ino=2->ptrO m.Disk (slO m.Disk p s.toNat).Ino k≠0->(slO m.Disk (ptrO m.Disk (slO m.Disk p s.toNat).Ino k) t).Ino=0) :
  Gd (slO m.Disk p s.toNat).Ino X ⟨slotIn m.Disk p s.toNat dSlot,m.Dirty,m.Deps,m.Next⟩:=by
 have T:=h.T'
 have hp0:p≠0:=by obtain ⟨a,b⟩:=hp; omega
 have hd:=h.g.ownDir ho hp0
 have hJ:=T.inoI hp hj
 obtain ⟨hk,hj1⟩:=h.g.nm p s.toNat hp ho hj
 have hc:=slotIn_cnt T hp ho hd (s:=s.toNat) (by omega) dSlot
 have hsl:=fun {q} (hq:B16 q) t=>slotIn_sl T hp hd (s:=s.toNat) (by omega) dSlot hq t
 have hR:=h.R.slotIn hp hd s0 s1 (x:=dSlot) (.inl rfl) (fun hz=>absurd rfl hz) hf
 have hg:=h.g.clear T hp ho hd (s:=s.toNat) (by omega) hne
 refine ⟨hR,h.sz,hg,h.fr,h.frp,?_,?_,⟨h.rt.1,hj1⟩,h.nd,?_,h.us,h.af⟩
 ·intro j hjj hj1 hkj
  have h1:=h.lk j hjj hj1 hkj
  have h2:=hc j
  rw [if_neg (show ¬ (0:Int)=j by obtain ⟨a,b⟩:=hjj; omega)] at h1
  rw [if_neg (show ¬ dSlot.Ino=j by show ¬ (0:Int)=j; obtain ⟨a,b⟩:=hjj; omega),Nat.add_zero] at h2
  show linkO m.Disk j=(cnt (slotIn m.Disk p s.toNat dSlot) j:Int)+(rems m.Deps j:Nat)+_
  rw [h1,show cnt m.Disk j=cnt (slotIn m.Disk p s.toNat dSlot) j+(if (slO m.Disk p s.toNat).Ino=j then 1 else 0) from h2.symm]
  split<;>simp<;>omega
 ·intro j hjj hkj
  exact ⟨(h.lk0 j hjj hkj).1,fun hh=>hk (hh▸hkj)⟩
 ·intro x hx h4
  obtain ⟨a,b⟩:=h.rd x hx h4
  refine ⟨?_,b⟩
  have hb:=depKind4 (h.R.knd x hx) h4
  have hn:=depNums_all (h.R.num x hx)
  show slO (slotIn m.Disk p s.toNat dSlot) x.Block x.Slot.toNat=dSlot
  rw [hsl ⟨by omega,hn.2.2.2.2.1.2⟩]
  split
  ·rfl
  ·exact a
theorem Gd.named {j:Int} (h:Gd j X m) {p s w:Int} {kw:Nat} {nm:ByteArray} (hp:B16 p) (hw:I8 w) (hkw:kindO m.Disk w=2) (hpw:ptrO m.Disk w kw=p) (s0:0<=s) (s1:s<=3) (h0:slO m.Disk p s.toNat=dSlot)
  (hn:nameOk nm=true) (hJ:I8 j) (hf:∀ y∈m.Deps,isNm y=true->y.Block=p->y.Slot≠s) (hcw:w=1\/cnt m.Disk w≠0) (hu:∀ l t,ptrO m.Disk w l≠0->(slO m.Disk (ptrO m.Disk w l) t).Name≠nm)
  (hr:kindO m.Disk j=2->(∀ k,ptrO m.Disk j k=0)/\cnt m.Disk j=0/\∀ r,RK m.Disk r->r w<4):Gd 0 X ⟨slotIn m.Disk p s.toNat ⟨nm,j⟩,m.Dirty,m.Deps,m.Next⟩:=by
 have T:=h.T'
 have hp0:p≠0:=by obtain ⟨a,b⟩:=hp; omega
 have ho:Own m.Disk p:=⟨w,kw,hw,hkw,hpw⟩
 have hd:=h.g.ownDir ho hp0
 have hk:kindO m.Disk j≠0:=fun hh=>(h.lk0 j hJ hh).2 rfl
 have hj1:=h.rt.2
 have hj0:j≠0:=by obtain ⟨a,b⟩:=hJ; omega
 have hc:=slotIn_cnt T hp ho hd (s:=s.toNat) (by omega) ⟨nm,j⟩
 have hsl:=fun {q} (hq:B16 q) t=>slotIn_sl T hp hd (s:=s.toNat) (by omega) ⟨nm,j⟩ hq t
 have hR:=h.R.slotIn hp hd s0 s1 (x:=⟨nm,j⟩) (.inr ⟨hn,hJ⟩) (fun _ t _=>by have:=hu kw t (by rw [hpw]; exact hp0); rw [hpw] at this; exact this) hf
 have hg:=h.g.named T hp hd hw hkw hpw (s:=s.toNat) (by omega) h0 hn hJ hj1 hk hcw hu hr
 refine ⟨hR,h.sz,hg,h.fr,h.frp,?_,?_,⟨h.rt.1,by decide⟩,h.nd,?_,h.us,h.af⟩
 ·intro a ha ha1 hka
  have h1:=h.lk a ha ha1 hka
  have h2:=hc a
  rw [h0,if_neg (show ¬ dSlot.Ino=a by show ¬ (0:Int)=a; obtain ⟨x,y⟩:=ha; omega),Nat.add_zero] at h2
  show linkO m.Disk a=(cnt (slotIn m.Disk p s.toNat ⟨nm,j⟩) a:Int)+(rems m.Deps a:Nat)+_
  rw [h1,if_neg (show ¬ (0:Int)=a by obtain ⟨x,y⟩:=ha; omega),show cnt (slotIn m.Disk p s.toNat ⟨nm,j⟩) a=cnt m.Disk a+(if j=a then 1 else 0) from h2]
  split<;>simp<;>omega
 ·intro a ha hka
  exact ⟨(h.lk0 a ha hka).1,by obtain ⟨x,y⟩:=ha; omega⟩
 ·intro x hx h4
  obtain ⟨a,b⟩:=h.rd x hx h4
  refine ⟨?_,b⟩
  have hb:=depKind4 (h.R.knd x hx) h4
  have hn:=depNums_all (h.R.num x hx)
  show slO (slotIn m.Disk p s.toNat ⟨nm,j⟩) x.Block x.Slot.toNat=dSlot
  rw [hsl ⟨by omega,hn.2.2.2.2.1.2⟩]
  split
  ·next hh=>exact absurd hh.2 (fun h2=>hf x hx (by rw [isNm_iff]; omega) hh.1 (by omega))
  ·exact a
theorem firstOr_spec {α β:Type} (P:α->Bool) (f:α->β) (z:β):∀ l:List α,(firstOr P f z l=z/\∀ x∈l,P x=false)\/∃ x∈l,P x=true/\firstOr P f z l=f x
 | []=> .inl ⟨rfl,fun x hx=>by cases hx⟩
 | x::l=>by
  simp only [firstOr]
  cases h:P x with
  | true=>exact .inr ⟨x,List.mem_cons_self,h,rfl⟩
  | false =>
   rcases firstOr_spec P f z l with ⟨h1,h2⟩ | ⟨y,hy,h1,h2⟩
   ·refine .inl ⟨h1,fun y hy=> ?_⟩
    rcases List.mem_cons.1 hy with rfl | hy
    ·exact h
    ·exact h2 y hy
   ·exact .inr ⟨y,List.mem_cons_of_mem _ hy,h1,h2⟩
theorem kindOf_id (h:MemR m) {x:Dep} (hx:x∈m.Deps):kindOf m x.Id=x.Kind:=by
 rcases firstOr_spec (fun d=>d.Id==x.Id) (·.Kind) 0 m.Deps with ⟨_,h2⟩ | ⟨y,hy,h1,h2⟩
 ·have:=h2 x hx; simp at this
 ·rw [kindOf,h2]
  rw [ids_eq h.ids hy hx (by simpa using h1)]
theorem depAt_spec (h:MemR m) (p s:Int):(depAt m p s=0/\∀ x∈m.Deps,isNm x=true->x.Block=p->x.Slot≠s)\/∃ x∈m.Deps,isNm x=true/\x.Block=p/\x.Slot=s/\depAt m p s=x.Id/\kindOf m (depAt m p s)=x.Kind:=by
 rcases firstOr_spec (fun d=>(isNm d&&(d.Block==p))&&(d.Slot==s)) (·.Id) 0 m.Deps with ⟨h1,h2⟩ | ⟨y,hy,h1,h2⟩
 ·refine .inl ⟨h1,fun x hx hn hb hs=> ?_⟩
  have:=h2 x hx
  rw [hn,beq_iff_eq.2 hb,beq_iff_eq.2 hs] at this; cases this
 ·simp only [Bool.and_eq_true,beq_iff_eq] at h1
  refine .inr ⟨y,hy,h1.1.1,h1.1.2,h1.2,h2,?_⟩
  rw [depAt,h2]; exact kindOf_id h hy
theorem kindOf_zero (h:MemR m):kindOf m 0=0:=by
 rcases firstOr_spec (fun d=>d.Id==0) (·.Kind) 0 m.Deps with ⟨h1,_⟩ | ⟨y,hy,h1,h2⟩
 ·exact h1
 ·have:=(depNums_all (h.num y hy)).1
  have h3:y.Id=0:=by simpa using h1
  omega
theorem Gd.nameGone (h:Gd 0 [] m) (hp:mayPut m=true) {p s b:Int} (hB:B16 p) (ho:Own m.Disk p) (s0:0<=s) (s1:s<=3) (hj:(slO m.Disk p s.toNat).Ino≠0)
  (hne:∀ k t,kindO m.Disk (slO m.Disk p s.toNat).Ino=2->ptrO m.Disk (slO m.Disk p s.toNat).Ino k≠0->(slO m.Disk (ptrO m.Disk (slO m.Disk p s.toNat).Ino k) t).Ino=0)
  (hb:b=0\/∃ x∈m.Deps,x.Id=b/\(x.Kind=2\/x.Kind=3)/\x.Ino=(slO m.Disk p s.toNat).Ino/\b≠depAt m p s):Gd 0 [] (Soft.nameGone m p s b):=by
 have T:=h.T'
 have hp0:p≠0:=by obtain ⟨a,b⟩:=hB; omega
 have hd:=h.g.ownDir ho hp0
 have hJ:=T.inoI hB hj
 have hdy:=h.R.dy
 have hsl:slotAt m p s=slO m.Disk p s.toNat:=rfl
 obtain ⟨m1,m2,m3⟩:=mayPut_iff.1 hp
 simp only [Soft.nameGone,hsl]
 rcases depAt_spec h.R p s with ⟨h1,h2⟩ | ⟨x,hx,hn,hxb,hxs,h1,h2⟩
 ·have hc:=h.clear hB ho s0 s1 hj h2 hne
  rw [h1,kindOf_zero h.R]
  simp only [show ((0:Int)==2)=false from rfl,show ((0:Int)==3)=false from rfl,Bool.or_false,cond_false]
  have hg:=hc.dirty (y:=markD (unitOfBlock p) m.Dirty) ((markD_len _ _).trans hdy)
  have hn':nameOk (slO m.Disk p s.toNat).Name=true:=by
   rcases T.slot' hB s.toNat with h3 | h3
   ·rw [h3] at hj; exact absurd rfl hj
   ·exact h3.2.2.1
  refine hg.putRem (mayPut_iff.2 ⟨m1,m2,m3⟩) hj hJ hB ho ?_ s0 s1 ?_ hn' h2 ?_
  ·exact (slotIn_dir T hB _ _ hB).trans hd
  ·show slO (slotIn m.Disk p s.toNat dSlot) p s.toNat=dSlot
   rw [slotIn_sl T hB hd (by omega) _ hB,if_pos ⟨rfl,rfl⟩]
  ·rcases hb with rfl | ⟨x,hx,a,b,c,_⟩
   ·exact .inl rfl
   ·exact .inr ⟨x,hx,a,b,c⟩
 ·have hk23:x.Kind=2\/x.Kind=3:=by
   rw [isNm_iff] at hn
   rcases hn with h3 | h3 | h3
   ·exact .inl h3
   ·exact .inr h3
   ·have:=(h.rd x hx h3).1
    rw [hxb,hxs] at this; rw [this] at hj; exact absurd rfl hj
  have hxi:x.Ino=(slO m.Disk p s.toNat).Ino:=by
   have:=(depKind23 (h.R.knd x hx) hk23).2.2
   rw [hxb,hxs] at this; exact this.symm
  have e1:((kindOf m (depAt m p s)==2)||(kindOf m (depAt m p s)==3))=true:=by rw [h2]; simpa using hk23
  rw [e1,cond_true]
  have hS:=h.shown hx hk23 (b:=b) (by
   rcases hb with rfl | ⟨y,hy,a,b,c,c2⟩
   ·exact .inl rfl
   ·exact .inr ⟨y,hy,a,b,by rw [hxi]; exact c,by rw [← h1]; exact c2⟩)
  have hf:∀ y∈(Soft.shown x.Id b m).Deps,isNm y=true->y.Block=p->y.Slot≠s:=by
   intro y hy hny hyb hys
   obtain ⟨z,hz,hzi,rfl⟩:=shown_mem.1 hy
   obtain ⟨a1,a2,a3,a4,a5,a6,a7,a8⟩:=aftOf_same x.Id b z
   rw [a5] at hyb; rw [a6] at hys
   have hnz:isNm z=true:=by simpa only [isNm,a2] using hny
   have hne:x≠z:=fun hh=>hzi (by rw [hh])
   have:=h.us
   rw [List.pairwise_iff_getElem] at this
   obtain ⟨i1,hi1,rfl⟩:=List.mem_iff_getElem.1 hx
   obtain ⟨i2,hi2,rfl⟩:=List.mem_iff_getElem.1 hz
   rcases Nat.lt_trichotomy i1 i2 with hlt | heq | hgt
   ·exact this i1 i2 hi1 hi2 hlt hn hnz (hxb.trans hyb.symm) (hxs.trans hys.symm)
   ·subst heq; exact hne rfl
   ·exact this i2 i1 hi2 hi1 hgt hnz hn (hyb.trans hxb.symm) (hys.trans hxs.symm)
  have hc:=hS.clear hB ho s0 s1 hj hf hne
  have hg:=hc.dirty (y:=(Soft.shown x.Id b (Soft.goneM m p s)).Dirty) ((aftDs_len _ _ _ _).trans ((markD_len _ _).trans hdy))
  have hst:(⟨slotIn m.Disk p s.toNat dSlot,(Soft.shown x.Id b (Soft.goneM m p s)).Dirty,(Soft.shown x.Id b m).Deps,m.Next⟩:Mem)=Soft.shown (depAt m p s) b (Soft.goneM m p s):=by rw [h1]; rfl
  have hg':Gd (slO m.Disk p s.toNat).Ino [] (Soft.shown (depAt m p s) b (Soft.goneM m p s)):=hst▸hg
  refine hg'.lose hJ (mayPut_iff.2 ⟨?_,m2,m3⟩)
  simp only [Soft.shown,List.length_map]
  exact Nat.lt_of_le_of_lt (List.length_filter_le _ _) m1
theorem Gd.bits (h:Gd e X m) {bb bi:List Bool} (h1:bb.length=16) (h2:bi.length=8) (hb:∀ p,B16 p->bitB m.Disk p=true->bb.getD (p-1).toNat false=true) (hi:∀ i,I8 i->bitI m.Disk i=true->bi.getD (i-1).toNat false=true) :
  Gd e X ⟨⟨⟨bb,bi⟩,m.Disk.Inodes,m.Disk.Blocks⟩,m.Dirty,m.Deps,m.Next⟩:=by
 have T:=h.T'
 have hg:DG ⟨⟨bb,bi⟩,m.Disk.Inodes,m.Disk.Blocks⟩:=DG.same T h.g T.di rfl (fun _ _=>rfl) (fun _ _ _=>rfl) (fun _ _ _=>rfl) (fun i k a b=>hb _ (T.ptrB a b) (h.g.bm i k a b)) (fun i a b=>hi i a (h.g.imk i a b))
 refine ⟨h.R.setBits h1 h2,h.sz,hg,?_,h.frp,h.lk,h.lk0,h.rt,h.nd,h.rd,h.us,h.af⟩
 intro x hx h5
 obtain ⟨a1,a2,a3,a4⟩:=h.fr x hx h5
 refine ⟨a1,hi _ (depNums_ino (h.R.num x hx)) a2,a3,fun p hp=>⟨hb p ?_ (a4 p hp).1,(a4 p hp).2⟩⟩
 have:=within_iff.1 (List.all_eq_true.1 (h.R.bs x hx) p hp)
 exact ⟨this.1,this.2⟩
theorem Gd.layIno (h:Gd 0 X m) {i k:Int} (hi:I8 i) (hk:k=1\/k=2) (h0:kindO m.Disk i=0) (hb:bitI m.Disk i=true) (hf:∀ x∈m.Deps,x.Kind=5->x.Ino≠i) :
  Gd i X ⟨inoSet m.Disk i (inodeNew k),m.Dirty,m.Deps,m.Next⟩:=by
 have T:=h.T'
 have hi0:i≠0:=by obtain ⟨a,b⟩:=hi; omega
 have hi1:i≠1:=fun hh=>by have:=h.g.rt; rw [← hh,h0] at this; exact absurd this (by decide)
 have hk0:k≠0:=by omega
 have hN:inodeNew k=⟨k,1,[0,0]⟩:=by rcases hk with rfl | rfl<;>rfl
 have hz:∀ kk,([0,0]:List Int).getD kk 0=0:=fun kk=>by
  match kk with
  | 0=>rfl
  | 1=>rfl
  | n+2=>rfl
 have hold:∀ kk,ptrO m.Disk i kk=0:=fun kk=>by
  have h1:=T.inoR hi.1 hi.2
  simp only [inodeOk,Bool.and_eq_true,List.all_eq_true] at h1
  by_cases hlt:kk<(inoAt m.Disk i).Ptrs.length
  ·have:=(h1.2.2.2.1 _ (getD_mem 0 hlt)).2
   have h2:(inoAt m.Disk i).Kind=0:=h0
   rw [h2] at this
   have h3:((inoAt m.Disk i).Ptrs.getD kk 0==0)=true:=this
   exact beq_iff_eq.1 h3
  ·simp [ptrO,List.getD_eq_getElem?_getD,List.getElem?_eq_none (Nat.le_of_not_lt hlt)]
 have c0:∀ p s,B16 p->Own m.Disk p->(slO m.Disk p s).Ino≠i:=fun p s hp ho he=>by
  have:=(h.g.nm p s hp ho (by rw [he]; exact hi0)).1
  rw [he] at this; exact this h0
 have hcnt:cnt m.Disk i=0:=(T.cnt0 hi0).2 c0
 rw [hN]
 have hkk:=fun {j} (hj:I8 j)=>kindO_inoSet T.di hi hj ⟨k,1,[0,0]⟩
 have hll:=fun {j} (hj:I8 j)=>linkO_inoSet T.di hi hj ⟨k,1,[0,0]⟩
 have hpp:∀ {j} (hj:I8 j) kk,ptrO (inoSet m.Disk i ⟨k,1,[0,0]⟩) j kk=ptrO m.Disk j kk:=fun {j} hj kk=>by
  rw [ptrO_inoSet T.di hi hj]; split
  ·next hh=>rw [hh,hold,hz]
  ·rfl
 have hO:∀ p,p≠0->(Own (inoSet m.Disk i ⟨k,1,[0,0]⟩) p↔Own m.Disk p):=fun p hp=>by
  constructor
  ·rintro ⟨j,kk,hj,a,b⟩
   rw [hpp hj] at b; rw [hkk hj] at a
   by_cases hh:j=i
   ·subst hh; rw [hold] at b; exact absurd b.symm hp
   ·rw [if_neg hh] at a; exact ⟨j,kk,hj,a,b⟩
  ·rintro ⟨j,kk,hj,a,b⟩
   have hh:j≠i:=fun hh=>by subst hh; rw [hold] at b; exact hp b.symm
   exact ⟨j,kk,hj,by rw [hkk hj,if_neg hh]; exact a,by rw [hpp hj]; exact b⟩
 have h8:(inoSet m.Disk i ⟨k,1,[0,0]⟩).Inodes.length=8:=List.length_set.trans T.di
 have hc:∀ j,cnt (inoSet m.Disk i ⟨k,1,[0,0]⟩) j=cnt m.Disk j:=fun j=>cnt_congr fun p hp=>by
  have hp0:p≠0:=by obtain ⟨a,b⟩:=hp; omega
  simp only [cntAt]
  rw [ownB_same T.di h8 hp0 (hO p hp0)]; rfl
 have hR:=h.R.setIno hi.1 hi.2 (x:=⟨k,1,[0,0]⟩) (by rw [← hN]; exact inodeNew_ok hk) (fun x hx hk1 he=>by
  have hkn:=h.R.knd x hx
  have e1:((x.Kind==1)||(x.Kind==6))=true:=hk1
  simp only [depKind,e1,cond_true,Bool.and_eq_true,decide_eq_true_eq,beq_iff_eq,he] at hkn
  have h3:=hold x.Ptr.toNat
  simp only [ptrO] at h3
  omega)
 have hg:DG (inoSet m.Disk i ⟨k,1,[0,0]⟩):=by
  refine ⟨?_,?_,?_,?_,?_,?_,?_,?_,?_,?_⟩
  ·intro a x b y ha hb; rw [hpp ha,hpp hb]; exact h.g.one a x b y ha hb
  ·intro a x ha; rw [hpp ha]; exact h.g.bm a x ha
  ·intro a ha; rw [hkk ha]; split
   ·next hh=>intro _; rw [hh]; exact hb
   ·exact h.g.imk a ha
  ·intro a x ha; rw [hpp ha,hkk ha]; split
   ·next hh=>intro h1; rw [hh,hold] at h1; exact absurd rfl h1
   ·exact h.g.pk a x ha
  ·intro p s hB ho hz
   have hp0:p≠0:=by obtain ⟨a,b⟩:=hB; omega
   rw [hO p hp0] at ho
   have h1:=h.g.nm p s hB ho hz
   refine ⟨?_,h1.2⟩
   show kindO (inoSet m.Disk i ⟨k,1,[0,0]⟩) (slO m.Disk p s).Ino≠0
   rw [hkk (T.inoI hB hz),if_neg (c0 p s hB ho)]; exact h1.1
  ·intro a x s ha ha1 hka hca; rw [hc] at hca; rw [hpp ha]; rw [hkk ha] at hka
   by_cases hh:a=i
   ·intro h1; rw [hh,hold] at h1; exact absurd rfl h1
   ·rw [if_neg hh] at hka; exact h.g.ne a x s ha ha1 hka hca
  ·intro j hj hkj; rw [hll hj]; rw [hkk hj] at hkj
   by_cases hh:j=i
   ·rw [if_pos hh]
   ·rw [if_neg hh] at hkj ⊢; exact h.g.dl j hj hkj
  ·rw [hkk ⟨by decide,by decide⟩,if_neg (Ne.symm hi1)]; exact h.g.rt
  ·intro a x y s t ha hka; rw [hpp ha,hpp ha]; rw [hkk ha] at hka
   by_cases hh:a=i
   ·intro h1; rw [hh,hold] at h1; exact absurd rfl h1
   ·rw [if_neg hh] at hka; exact h.g.un a x y s t ha hka
  ·obtain ⟨r,r1,r2⟩:=h.g.rk
   refine ⟨r,r1,fun a x s ha hka=> ?_⟩
   rw [hpp ha]; rw [hkk ha] at hka
   by_cases hh:a=i
   ·intro h1; rw [hh,hold] at h1; exact absurd rfl h1
   ·rw [if_neg hh] at hka
    intro h1 h2 h3
    have h2':(slO m.Disk (ptrO m.Disk a x) s).Ino≠0:=h2
    have h3':kindO (inoSet m.Disk i ⟨k,1,[0,0]⟩) (slO m.Disk (ptrO m.Disk a x) s).Ino=2:=h3
    rw [hkk (T.inoI (T.ptrB ha h1) h2'),if_neg (c0 _ s (T.ptrB ha h1) ⟨a,x,ha,hka,rfl⟩)] at h3'
    exact r2 a x s ha hka h1 h2' h3'
 have hblk0:∀ x∈m.Deps,x.Kind=2\/x.Kind=3\/x.Kind=4->x.Block≠0:=fun x hx hk=>by
  rcases hk with h1 | h1 | h1
  ·have:=(depKind23 (h.R.knd x hx) (.inl h1)).1; omega
  ·have:=(depKind23 (h.R.knd x hx) (.inr h1)).1; omega
  ·have:=(depKind4 (h.R.knd x hx) h1).1; omega
 refine ⟨hR,h.sz,hg,?_,h.frp,?_,?_,⟨h.rt.1,hi1⟩,?_,?_,h.us,h.af⟩
 ·intro x hx h5
  obtain ⟨a1,a2,a3,a4⟩:=h.fr x hx h5
  refine ⟨?_,a2,a3,fun p hp=>⟨(a4 p hp).1,fun j l hj=> ?_⟩⟩
  ·show kindO (inoSet m.Disk i ⟨k,1,[0,0]⟩) x.Ino=0
   rw [hkk (depNums_ino (h.R.num x hx)),if_neg (hf x hx h5)]; exact a1
  ·show ptrO (inoSet m.Disk i ⟨k,1,[0,0]⟩) j l≠p
   rw [hpp hj]; exact (a4 p hp).2 j l hj
 ·intro j hj hj1 hkj
  have hkj':kindO (inoSet m.Disk i ⟨k,1,[0,0]⟩) j≠0:=hkj
  rw [hkk hj] at hkj'
  show linkO (inoSet m.Disk i ⟨k,1,[0,0]⟩) j=(cnt (inoSet m.Disk i ⟨k,1,[0,0]⟩) j:Int)+(rems m.Deps j:Nat)+_
  rw [hc,hll hj]
  by_cases hh:j=i
  ·rw [if_pos hh,if_pos hh.symm,hh,hcnt,(h.lk0 i hi h0).1]; rfl
  ·rw [if_neg hh] at hkj' ⊢
   rw [if_neg (fun q=>hh q.symm)]
   have:=h.lk j hj hj1 hkj'
   rw [if_neg (show ¬ (0:Int)=j by obtain ⟨a,b⟩:=hj; omega)] at this
   exact this
 ·intro j hj hkj
  have hkj':kindO (inoSet m.Disk i ⟨k,1,[0,0]⟩) j=0:=hkj
  rw [hkk hj] at hkj'
  by_cases hh:j=i
  ·rw [if_pos hh] at hkj'; exact absurd hkj' hk0
  ·rw [if_neg hh] at hkj'
   exact ⟨(h.lk0 j hj hkj').1,fun q=>hh q.symm⟩
 ·intro x hx h2
  exact (hO _ (hblk0 x hx (by omega))).2 (h.nd x hx h2)
 ·intro x hx h4
  obtain ⟨a,b⟩:=h.rd x hx h4
  exact ⟨a,b.imp_left (hO _ (hblk0 x hx (by omega))).2⟩
theorem Gd.more (h:Gd 0 X m) {i:Int} (hi:I8 i) (hk:kindO m.Disk i=1) (hl:linkO m.Disk i<200):Gd i X ⟨inoSet m.Disk i ⟨(inoAt m.Disk i).Kind,(inoAt m.Disk i).Links+1,(inoAt m.Disk i).Ptrs⟩,m.Dirty,m.Deps,m.Next⟩:=by
 have T:=h.T'
 have hi1:i≠1:=fun hh=>by have:=h.g.rt; rw [← hh,hk] at this; exact absurd this (by decide)
 have hok:=T.inoR hi.1 hi.2
 generalize hx:(⟨(inoAt m.Disk i).Kind,(inoAt m.Disk i).Links+1,(inoAt m.Disk i).Ptrs⟩:Inode)=x
 have hxk:x.Kind=kindO m.Disk i:=by rw [← hx]; rfl
 have hxl:x.Links=linkO m.Disk i+1:=by rw [← hx]; rfl
 have hxp:x.Ptrs=(inoAt m.Disk i).Ptrs:=by rw [← hx]
 have hkk:∀ j,I8 j->kindO (inoSet m.Disk i x) j=kindO m.Disk j:=fun j hj=>by
  rw [kindO_inoSet T.di hi hj]; split
  ·next hh=>rw [hh,hxk]
  ·rfl
 have hpp:∀ j k,I8 j->ptrO (inoSet m.Disk i x) j k=ptrO m.Disk j k:=fun j k hj=>by
  rw [ptrO_inoSet T.di hi hj]; split
  ·next hh=>rw [hh,hxp]; rfl
  ·rfl
 have h8:(inoSet m.Disk i x).Inodes.length=8:=List.length_set.trans T.di
 have hO:=own_same hkk hpp
 have hc:=cnt_same T.di h8 hkk hpp rfl
 have hR:=h.R.setIno hi.1 hi.2 (x:=x) (by
  simp only [inodeOk,Bool.and_eq_true,within_iff] at hok ⊢
  have hk':(inoAt m.Disk i).Kind=1:=hk
  have hl':(inoAt m.Disk i).Links<200:=hl
  rw [← hx]; simp only [hk'] at hok ⊢
  exact ⟨by decide,by omega,hok.2.2.1,hok.2.2.2.1,rfl⟩) (fun y hy hk1 he=>by
  have hkn:=h.R.knd y hy
  have e1:((y.Kind==1)||(y.Kind==6))=true:=hk1
  simp only [depKind,e1,cond_true,Bool.and_eq_true,decide_eq_true_eq,he] at hkn
  rw [hxp]; exact hkn.2)
 have hg:DG (inoSet m.Disk i x):=DG.same T h.g h8 rfl hkk hpp (fun j hj h2=>by
  rw [linkO_inoSet T.di hi hj]; split
  ·next hh=>rw [hh,hk] at h2; exact absurd h2 (by decide)
  ·rfl) (fun a k ha h0=>h.g.bm a k ha h0) (fun a ha h0=>h.g.imk a ha h0)
 refine ⟨hR,h.sz,hg,?_,h.frp,?_,?_,⟨h.rt.1,hi1⟩,fun y hy h2=>(hO _).2 (h.nd y hy h2),?_,h.us,h.af⟩
 ·intro y hy h5
  obtain ⟨a1,a2,a3,a4⟩:=h.fr y hy h5
  exact ⟨(hkk _ (depNums_ino (h.R.num y hy))).trans a1,a2,a3,fun p hp=>⟨(a4 p hp).1,fun j k hj=>by show ptrO (inoSet m.Disk i x) j k≠p; rw [hpp j k hj]; exact (a4 p hp).2 j k hj⟩⟩
 ·intro j hj hj1 hkj
  have hkj':kindO (inoSet m.Disk i x) j≠0:=hkj
  rw [hkk j hj] at hkj'
  show linkO (inoSet m.Disk i x) j=(cnt (inoSet m.Disk i x) j:Int)+(rems m.Deps j:Nat)+_
  have:=h.lk j hj hj1 hkj'
  rw [if_neg (show ¬ (0:Int)=j by obtain ⟨a,b⟩:=hj; omega)] at this
  rw [hc,linkO_inoSet T.di hi hj]
  by_cases hh:j=i
  ·rw [if_pos hh,if_pos hh.symm,hxl,← hh]; omega
  ·rw [if_neg hh,if_neg (fun q=>hh q.symm)]; exact this
 ·intro j hj hkj
  have hkj':kindO (inoSet m.Disk i x) j=0:=hkj
  rw [hkk j hj] at hkj'
  exact ⟨(h.lk0 j hj hkj').1,fun hh=>by rw [← hh,hk] at hkj'; exact absurd hkj' (by decide)⟩
 ·intro y hy h4
  obtain ⟨a,b⟩:=h.rd y hy h4
  exact ⟨a,b.imp_left (hO _).2⟩
def growM (m:Mem) (i:Int) (x:Nat) (r:Int) (b:Block):Mem :=
 ⟨inoSet (blkSet m.Disk r b) i (ptrSet (inoAt m.Disk i) x r),m.Dirty,m.Deps++[⟨m.Next,1,i,x,r,0,eS,false,false,0,[]⟩],m.Next+1⟩
theorem Gd.grow (h:Gd e X m) (hp:mayPut m=true) {i:Int} (hi:I8 i) (hki:kindO m.Disk i≠0) {x:Nat} (hx:x<=1) (h0:ptrO m.Disk i x=0) {r:Int} (hr:B16 r) (hb:bitB m.Disk r=true) (hfp:∀ j k,I8 j->ptrO m.Disk j k≠r)
  (hfF:∀ f∈m.Deps,f.Kind=5->r∉f.Blocks) (hfn:∀ y∈m.Deps,isNm y=true->y.Block≠r) {b:Block} (hok:blockOk b=true) (hbd:b.Dir=true↔kindO m.Disk i=2) (hbs:∀ s,b.Slots.getD s dSlot=dSlot):Gd e X (growM m i x r b):=by
 obtain ⟨m1,m2,m3⟩:=mayPut_iff.1 hp
 have T:=h.T'
 have hr0:r≠0:=by obtain ⟨a,b⟩:=hr; omega
 have hlen:(inoAt m.Disk i).Ptrs.length=2:=T.ptrs hi.1 hi.2
 have hD:∀ {P:Disk->Prop},(P (growM m i x r b).Disk↔P (inoSet (blkSet m.Disk r b) i (ptrSet (inoAt m.Disk i) x r))):=Iff.rfl
 have h8b:(blkSet m.Disk r b).Inodes.length=8:=T.di
 have hkk:∀ {j},I8 j->kindO (growM m i x r b).Disk j=kindO m.Disk j:=fun {j} hj=>by
  show kindO (inoSet (blkSet m.Disk r b) i _) j=_
  rw [kindO_inoSet h8b hi hj]; split
  ·next hh=>rw [hh]; rfl
  ·rfl
 have hll:∀ {j},I8 j->linkO (growM m i x r b).Disk j=linkO m.Disk j:=fun {j} hj=>by
  show linkO (inoSet (blkSet m.Disk r b) i _) j=_
  rw [linkO_inoSet h8b hi hj]; split
  ·next hh=>rw [hh]; rfl
  ·rfl
 have hpp:∀ {j} (hj:I8 j) k,ptrO (growM m i x r b).Disk j k=if j=i/\k=x then r else ptrO m.Disk j k:=fun {j} hj k=>by
  show ptrO (inoSet (blkSet m.Disk r b) i _) j k=_
  rw [ptrO_inoSet h8b hi hj]
  by_cases hh:j=i
  ·subst hh
   simp only [if_true,true_and,ptrSet,getD_set,hlen]
   by_cases hk:k=x
   ·rw [if_pos ⟨hk,by omega⟩,if_pos hk]
   ·rw [if_neg (by omega),if_neg hk]; rfl
  ·rw [if_neg hh,if_neg (fun q=>hh q.1)]; rfl
 have hbb:∀ {q},B16 q->blkAt (growM m i x r b).Disk q=if q=r then b else blkAt m.Disk q:=fun {q} hq=>by
  show blkAt (blkSet m.Disk r b) q=_
  exact blkAt_blkSet T.db hr hq b
 have hss:∀ {q} (hq:B16 q) s,slO (growM m i x r b).Disk q s=if q=r then dSlot else slO m.Disk q s:=fun {q} hq s=>by
  simp only [slO]; rw [hbb hq]; split
  ·exact hbs s
  ·rfl
 have hO:∀ {p},p≠0->(Own (growM m i x r b).Disk p↔Own m.Disk p\/(p=r/\kindO m.Disk i=2)):=fun {p} hp0=>by
  constructor
  ·rintro ⟨j,k,hj,a,c⟩
   rw [hkk hj] at a; rw [hpp hj] at c
   by_cases hh:j=i/\k=x
   ·rw [if_pos hh] at c; rw [hh.1] at a; exact .inr ⟨c.symm,a⟩
   ·rw [if_neg hh] at c; exact .inl ⟨j,k,hj,a,c⟩
  ·rintro (⟨j,k,hj,a,c⟩ | ⟨rfl,a⟩)
   ·refine ⟨j,k,hj,by rw [hkk hj]; exact a,?_⟩
    rw [hpp hj,if_neg]
    ·exact c
    ·rintro ⟨rfl,rfl⟩; rw [h0] at c; exact hp0 c.symm
   ·exact ⟨i,x,hi,by rw [hkk hi]; exact a,by rw [hpp hi,if_pos ⟨rfl,rfl⟩]⟩
 have hnr:¬ Own m.Disk r:=fun ⟨j,k,hj,_,c⟩=>hfp j k hj c
 have h8:(growM m i x r b).Disk.Inodes.length=8:=List.length_set.trans h8b
 have hc:∀ {j},j≠0->cnt (growM m i x r b).Disk j=cnt m.Disk j:=fun {j} hj0=>cnt_congr fun p hp=>by
  have hp0:p≠0:=by obtain ⟨a,b⟩:=hp; omega
  simp only [cntAt]; rw [hbb hp]
  by_cases hh:p=r
  ·rw [if_pos hh]
   have e1:ownB m.Disk p=false:=by rw [← Bool.not_eq_true,own_iff T.di hp0,hh]; exact hnr
   have e2:cntIn b j=0:=cntIn_zero.2 fun s hs=>by
    obtain ⟨k,hk,rfl⟩:=List.mem_iff_getElem.1 hs
    have:=hbs k
    rw [getD_get _ _ hk] at this
    rw [this]; exact hj0.symm
   rw [e1,e2]; cases ownB (growM m i x r b).Disk p<;>rfl
  ·rw [if_neg hh]
   have:ownB (growM m i x r b).Disk p=ownB m.Disk p:=by
    rw [Bool.eq_iff_iff,own_iff h8 hp0,own_iff T.di hp0,hO hp0]
    exact ⟨fun q=>q.resolve_right fun q=>hh q.1,.inl⟩
   rw [this]
 have hR:MemR (growM m i x r b):=by
  have s1:=h.R.setBlk hr.1 hr.2 hok (fun y hy hk hbk=>by
   exact absurd hbk (hfn y hy (isNm_iff.2 (by have hk':y.Kind=2\/y.Kind=3:=(by simpa using hk); omega)))) (fun y hy hk hbk=>absurd hbk (hfn y hy (isNm_iff.2 (by have hk':y.Kind=4:=(by simpa using hk); omega))))
  have s2:=s1.setIno hi.1 hi.2 (x:=ptrSet (inoAt m.Disk i) x r) (inodeOk_set (T.inoR hi.1 hi.2) hki x (by obtain ⟨a,b⟩:=hr; omega) hr.2) (fun y hy hk1 he=>by
   have hkn:=h.R.knd y hy
   have hnm:=(depNums_all (h.R.num y hy)).2.2.2.1
   have e1:((y.Kind==1)||(y.Kind==6))=true:=hk1
   simp only [depKind,e1,cond_true,Bool.and_eq_true,decide_eq_true_eq,beq_iff_eq,he] at hkn
   simp only [ptrSet,getD_set,hlen]
   by_cases hh:y.Ptr.toNat=x
   ·rw [hh] at hkn
    have h2:(inoAt m.Disk i).Ptrs.getD x 0=0:=h0
    omega
   ·rw [if_neg (fun q=>hh q.1),beq_iff_eq]; exact hkn.2)
  have s3:=s2.put ⟨0,1,i,x,r,0,eS,false,false,0,[]⟩ (by
   simp only [depNums,Bool.and_eq_true,within_iff]
   obtain ⟨a,c⟩:=hi; obtain ⟨a',c'⟩:=hr
   exact ⟨⟨m2,by omega⟩,⟨by decide,by decide⟩,⟨a,c⟩,⟨by omega,by omega⟩,⟨by omega,c'⟩,⟨by decide,by decide⟩,by decide,by omega⟩) rfl (by
   have e2:inoAt (inoSet (blkSet m.Disk r b) i (ptrSet (inoAt m.Disk i) x r)) i=ptrSet (inoAt m.Disk i) x r:=by rw [inoAt_inoSet h8b hi hi,if_pos rfl]
   have e3:(ptrSet (inoAt m.Disk i) x r).Ptrs.getD x 0=r:=by simp only [ptrSet,getD_set,hlen]; rw [if_pos ⟨trivial,by omega⟩]
   show (bif ((1:Int)==1)||((1:Int)==6) then decide (0<r)&&((inoAt (inoSet (blkSet m.Disk r b) i (ptrSet (inoAt m.Disk i) x r)) i).Ptrs.getD (x:Int).toNat 0==r) else _)=true
   rw [e2,Int.toNat_natCast,e3]
   obtain ⟨a',c'⟩:=hr
   simp only [show ((1:Int)==1)=true from rfl,Bool.true_or,cond_true]
   rw [decide_eq_true (by omega),beq_self_eq_true (a:=r)]; rfl)
  have s4:MemR (putDep ⟨inoSet (blkSet m.Disk r b) i (ptrSet (inoAt m.Disk i) x r),m.Dirty,m.Deps,m.Next⟩ ⟨0,1,i,x,r,0,eS,false,false,0,[]⟩).1:=s3
  rw [putDep_may (m:=⟨inoSet (blkSet m.Disk r b) i (ptrSet (inoAt m.Disk i) x r),m.Dirty,m.Deps,m.Next⟩) (mayPut_iff.2 ⟨m1,m2,m3⟩)] at s4
  exact s4
 have hg:DG (growM m i x r b).Disk:=by
  refine ⟨?_,?_,?_,?_,?_,?_,?_,?_,?_,?_⟩
  ·intro a k c l ha hc'; rw [hpp ha,hpp hc']
   split
   ·next q1 =>
     split
     ·next q2=>intro _ _; exact ⟨q1.1.trans q2.1.symm,q1.2.trans q2.2.symm⟩
     ·intro q _; exact absurd q.symm (hfp c l hc')
   ·split
    ·intro q _; exact absurd q (hfp a k ha)
    ·exact h.g.one a k c l ha hc'
  ·intro a k ha; rw [hpp ha]; split
   ·intro _; exact hb
   ·exact h.g.bm a k ha
  ·intro a ha; rw [hkk ha]; exact h.g.imk a ha
  ·intro a k ha; rw [hpp ha,hkk ha]; split
   ·next q=>intro _; rw [hbb hr,if_pos rfl,q.1]; exact hbd
   ·intro q; rw [hbb (T.ptrB ha q),if_neg (hfp a k ha)]; exact h.g.pk a k ha q
  ·intro p s hB ho; rw [hss hB]; split
   ·intro q; exact absurd rfl q
   ·next q =>
    have hp0:p≠0:=by obtain ⟨a,b⟩:=hB; omega
    intro hz
    rw [hkk (T.inoI hB hz)]
    exact h.g.nm p s hB (((hO hp0).1 ho).resolve_right fun z=>q z.1) hz
  ·intro a k s ha ha1 hka hca; rw [hkk ha] at hka; rw [hc (by obtain ⟨a,b⟩:=ha; omega)] at hca; rw [hpp ha]; split
   ·intro _; rw [hss hr,if_pos rfl]; rfl
   ·intro q; rw [hss (T.ptrB ha q),if_neg (hfp a k ha)]; exact h.g.ne a k s ha ha1 hka hca q
  ·intro j hj; rw [hkk hj,hll hj]; exact h.g.dl j hj
  ·rw [hkk ⟨by decide,by decide⟩]; exact h.g.rt
  ·intro a k l s t ha hka; rw [hkk ha] at hka; rw [hpp ha,hpp ha]
   split
   ·intro _ _; rw [hss hr,if_pos rfl]; intro q; exact absurd rfl q
   ·split
    ·intro q _; rw [hss hr,if_pos rfl,hss (T.ptrB ha q),if_neg (hfp a k ha)]
     intro q1 q2
     rcases T.slot' (T.ptrB ha q) s with z | z
     ·rw [z] at q1; exact absurd rfl q1
     ·exact absurd q2 (nameOk_ne z.2.2.1)
    ·intro q q'; rw [hss (T.ptrB ha q),if_neg (hfp a k ha),hss (T.ptrB ha q'),if_neg (hfp a l ha)]
     exact h.g.un a k l s t ha hka q q'
  ·obtain ⟨rr,r1,r2⟩:=h.g.rk
   refine ⟨rr,r1,fun a k s ha hka=> ?_⟩
   rw [hkk ha] at hka; rw [hpp ha]; split
   ·intro _; rw [hss hr,if_pos rfl]; intro q; exact absurd rfl q
   ·intro q; rw [hss (T.ptrB ha q),if_neg (hfp a k ha)]
    intro hz; rw [hkk (T.inoI (T.ptrB ha q) hz)]
    exact r2 a k s ha hka q hz
 have hmem:∀ {y},y∈(growM m i x r b).Deps->y∈m.Deps\/y=⟨m.Next,1,i,x,r,0,eS,false,false,0,[]⟩:=fun {y} hy=>by
  rcases List.mem_append.1 hy with hy | hy
  ·exact .inl hy
  ·exact .inr (List.mem_singleton.1 hy)
 have hrem:∀ j,rems (growM m i x r b).Deps j=rems m.Deps j:=fun j=>by
  show rems (m.Deps++[_]) j=_
  simp [rems,List.countP_append]
 refine ⟨hR,?_,hg,?_,?_,?_,?_,?_,?_,?_,?_,?_⟩
 ·intro y hy
  rcases hmem hy with hy | rfl
  ·exact h.sz y hy
  ·exact ⟨by show eS.size<=LEN; decide,by show ([]:List Int).length<=LEN; decide⟩
 ·intro y hy h5
  rcases hmem hy with hy | rfl
  ·obtain ⟨a1,a2,a3,a4⟩:=h.fr y hy h5
   refine ⟨(hkk (depNums_ino (h.R.num y hy))).trans a1,a2,a3,fun p hp=>⟨(a4 p hp).1,fun j l hj=> ?_⟩⟩
   rw [hpp hj]; split
   ·intro q; exact hfF y hy h5 (q▸hp)
   ·exact (a4 p hp).2 j l hj
  ·exact absurd h5 (by show ¬ (1:Int)=5; decide)
 ·show (m.Deps++[_]).Pairwise _
  rw [List.pairwise_append]
  refine ⟨h.frp,List.pairwise_singleton _ _,?_⟩
  intro a _ c hc _ h5
  rw [List.mem_singleton] at hc; subst hc
  exact absurd h5 (by show ¬ (1:Int)=5; decide)
 ·intro j hj hj1; rw [hkk hj,hll hj,hrem,hc (by obtain ⟨a,b⟩:=hj; omega)]; exact h.lk j hj hj1
 ·intro j hj; rw [hkk hj,hrem]; exact h.lk0 j hj
 ·rw [hrem]; exact h.rt
 ·intro y hy h2
  rcases hmem hy with hy | rfl
  ·have:=(depKind23 (h.R.knd y hy) h2).1
   exact (hO (by omega)).2 (.inl (h.nd y hy h2))
  ·exact absurd h2 (by show ¬ ((1:Int)=2\/(1:Int)=3); omega)
 ·intro y hy h4
  rcases hmem hy with hy | rfl
  ·obtain ⟨a,c⟩:=h.rd y hy h4
   have hb:=(depKind4 (h.R.knd y hy) h4).1
   have hn:=(depNums_all (h.R.num y hy)).2.2.2.2.1
   refine ⟨?_,?_⟩
   ·rw [hss ⟨by omega,hn.2⟩,if_neg (hfn y hy (by rw [isNm_iff]; omega))]; exact a
   ·rcases c with c | c | ⟨f,hf,hf5,hfb⟩
    ·exact .inl ((hO (by omega)).2 (.inl c))
    ·exact .inr (.inl c)
    ·exact .inr (.inr ⟨f,List.mem_append_left _ hf,hf5,hfb⟩)
  ·exact absurd h4 (by show ¬ (1:Int)=4; decide)
 ·show (m.Deps++[_]).Pairwise _
  rw [List.pairwise_append]
  refine ⟨h.us,List.pairwise_singleton _ _,?_⟩
  intro a ha c hc _ hn
  rw [List.mem_singleton] at hc; subst hc
  exact absurd hn (by show ¬ isNm ⟨m.Next,1,i,x,r,0,eS,false,false,0,_⟩=true; rw [isNm_iff]; simp)
 ·intro y hy h4 hz
  rcases hmem hy with hy | rfl
  ·obtain ⟨z,hz,a,c⟩:=h.af y hy h4 hz
   exact ⟨z,List.mem_append_left _ hz,a,c⟩
  ·exact absurd h4 (by show ¬ (1:Int)=4; decide)
theorem Gd.text (h:Gd e [] m) {w p:Int} {k:Nat} (hw:I8 w) (hkw:kindO m.Disk w=1) (hpw:ptrO m.Disk w k=p) (hp0:p≠0) {s:ByteArray} (hs:s.size<=16):Gd e [] ⟨blkSet m.Disk p ⟨false,[],s⟩,m.Dirty,m.Deps,m.Next⟩:=by
 have T:=h.T'
 have hp:B16 p:=by rw [← hpw]; exact T.ptrB hw (by rw [hpw]; exact hp0)
 have hno:¬ Own m.Disk p:=fun ⟨j,l,hj,a,c⟩=>by
  have:=(h.g.one j l w k hj hw (c.trans hpw.symm) (by rw [c]; exact hp0)).1
  rw [this,hkw] at a; exact absurd a (by decide)
 have hdir:(blkAt m.Disk p).Dir=false:=by
  have:=h.g.pk w k hw (by rw [hpw]; exact hp0)
  rw [hpw,hkw] at this
  cases hd:(blkAt m.Disk p).Dir with
  | false=>rfl
  | true=>exact absurd (this.1 hd) (by decide)
 have hbb:∀ {q},B16 q->blkAt (blkSet m.Disk p ⟨false,[],s⟩) q=if q=p then ⟨false,[],s⟩ else blkAt m.Disk q:=fun hq=>blkAt_blkSet T.db hp hq _
 have hss:∀ {q} (hq:B16 q) t,slO (blkSet m.Disk p ⟨false,[],s⟩) q t=slO m.Disk q t:=fun {q} hq t=>by
  simp only [slO]; rw [hbb hq]; split
  ·next hh =>
   subst hh
   rcases T.slot hq t with z | z
   ·exact z.symm
   ·rw [hdir] at z; exact absurd z.2.1 (by decide)
  ·rfl
 have hc:∀ j,cnt (blkSet m.Disk p ⟨false,[],s⟩) j=cnt m.Disk j:=fun j=>cnt_congr fun q hq=>by
  have hq0:q≠0:=by obtain ⟨a,b⟩:=hq; omega
  have e1:ownB (blkSet m.Disk p ⟨false,[],s⟩) q=ownB m.Disk q:=rfl
  simp only [cntAt,e1]; rw [hbb hq]; split
  ·next hh =>
   subst hh
   have:ownB m.Disk q=false:=by rw [← Bool.not_eq_true,own_iff T.di hq0]; exact hno
   rw [this]; rfl
  ·rfl
 have hnm:∀ y∈m.Deps,isNm y=true->y.Block≠p:=fun y hy hn hb=>by
  rw [isNm_iff] at hn
  rcases hn with z | z | z
  ·exact hno (hb▸h.nd y hy (.inl z))
  ·exact hno (hb▸h.nd y hy (.inr z))
  ·have:=(depKind4 (h.R.knd y hy) z).2.1
   rw [hb,hdir] at this; exact absurd this (by decide)
 have hR:=h.R.setBlk hp.1 hp.2 (b:=⟨false,[],s⟩) (by simp only [blockOk,cond_false]; simp [hs]) (fun y hy hk hbk=>absurd hbk (hnm y hy (isNm_iff.2 (by have hk':y.Kind=2\/y.Kind=3:=(by simpa using hk); omega))))
  (fun y hy hk hbk=>absurd hbk (hnm y hy (isNm_iff.2 (by have hk':y.Kind=4:=(by simpa using hk); omega))))
 have hg:DG (blkSet m.Disk p ⟨false,[],s⟩):=by
  refine ⟨h.g.one,h.g.bm,h.g.imk,?_,?_,?_,h.g.dl,h.g.rt,?_,?_⟩
  ·intro i l hi hz
   have hz':ptrO m.Disk i l≠0:=hz
   show (blkAt (blkSet m.Disk p ⟨false,[],s⟩) (ptrO m.Disk i l)).Dir=true↔kindO m.Disk i=2
   rw [hbb (T.ptrB hi hz')]; split
   ·next hh =>
    have:=(h.g.one i l w k hi hw (hh.trans hpw.symm) hz').1
    rw [this,hkw]; simp
   ·exact h.g.pk i l hi hz'
  ·intro q t hq ho; rw [hss hq]; exact h.g.nm q t hq ho
  ·intro i l t hi hi1 hk hc0 hz; rw [hc] at hc0
   have hz':ptrO m.Disk i l≠0:=hz
   show (slO (blkSet m.Disk p ⟨false,[],s⟩) (ptrO m.Disk i l) t).Ino=0
   rw [hss (T.ptrB hi hz')]; exact h.g.ne i l t hi hi1 hk hc0 hz'
  ·intro i l l' t t' hi hk hz hz'
   have q1:ptrO m.Disk i l≠0:=hz
   have q2:ptrO m.Disk i l'≠0:=hz'
   show (slO (blkSet m.Disk p ⟨false,[],s⟩) (ptrO m.Disk i l) t).Ino≠0->(slO (blkSet m.Disk p ⟨false,[],s⟩) (ptrO m.Disk i l) t).Name=(slO (blkSet m.Disk p ⟨false,[],s⟩) (ptrO m.Disk i l') t').Name->_
   rw [hss (T.ptrB hi q1),hss (T.ptrB hi q2)]; exact h.g.un i l l' t t' hi hk q1 q2
  ·obtain ⟨rr,r1,r2⟩:=h.g.rk
   refine ⟨rr,r1,fun i l t hi hk hz=> ?_⟩
   have q1:ptrO m.Disk i l≠0:=hz
   show (slO (blkSet m.Disk p ⟨false,[],s⟩) (ptrO m.Disk i l) t).Ino≠0->kindO m.Disk (slO (blkSet m.Disk p ⟨false,[],s⟩) (ptrO m.Disk i l) t).Ino=2->rr (slO (blkSet m.Disk p ⟨false,[],s⟩) (ptrO m.Disk i l) t).Ino=rr i+1/\rr i<4
   rw [hss (T.ptrB hi q1)]; exact r2 i l t hi hk q1
 refine ⟨hR,h.sz,hg,h.fr,h.frp,?_,h.lk0,h.rt,h.nd,?_,h.us,h.af⟩
 ·intro j hj hj1 hkj
  show linkO m.Disk j=(cnt (blkSet m.Disk p ⟨false,[],s⟩) j:Int)+(rems m.Deps j:Nat)+_
  rw [hc]; exact h.lk j hj hj1 hkj
 ·intro y hy h4
  obtain ⟨a,c⟩:=h.rd y hy h4
  have hb:=(depKind4 (h.R.knd y hy) h4).1
  have hn:=(depNums_all (h.R.num y hy)).2.2.2.2.1
  refine ⟨?_,c⟩
  show slO (blkSet m.Disk p ⟨false,[],s⟩) y.Block y.Slot.toNat=dSlot
  rw [hss ⟨by omega,hn.2⟩]; exact a
theorem Gd.putAdd (h:Gd e X m) (hp:mayPut m=true) {p s j:Int} (hB:B16 p) (ho:Own m.Disk p) (s0:0<=s) (s1:s<=3) (hj:I8 j) (hs:(slO m.Disk p s.toNat).Ino=j) (hf:∀ x∈m.Deps,isNm x=true->x.Block=p->x.Slot≠s) :
  Gd e X ⟨m.Disk,m.Dirty,m.Deps++[⟨m.Next,2,j,0,p,s,eS,false,false,0,[]⟩],m.Next+1⟩:=by
 obtain ⟨m1,m2,m3⟩:=mayPut_iff.1 hp
 obtain ⟨p1,p2⟩:=hB
 have hd:=h.g.ownDir ho (by omega)
 have hR:=h.R.put ⟨0,2,j,0,p,s,eS,false,false,0,[]⟩ (by
  simp only [depNums,Bool.and_eq_true,within_iff]
  exact ⟨⟨m2,by omega⟩,⟨by decide,by decide⟩,hj,⟨by decide,by decide⟩,⟨by omega,p2⟩,⟨s0,s1⟩,by decide,by omega⟩) rfl (by
  have hs':((blkAt m.Disk p).Slots.getD s.toNat dSlot).Ino=j:=hs
  simp only [depKind,show ((2:Int)==1)=false from rfl,show ((2:Int)==6)=false from rfl,show ((2:Int)==2)=true from rfl,Bool.or_false,Bool.true_or,cond_false,cond_true,hd,hs',beq_self_eq_true,Bool.and_true,decide_eq_true_eq]
  omega)
 rw [putDep_may hp] at hR
 have hmem:∀ {y},y∈m.Deps++[(⟨m.Next,2,j,0,p,s,eS,false,false,0,[]⟩:Dep)]->y∈m.Deps\/y=⟨m.Next,2,j,0,p,s,eS,false,false,0,[]⟩:=fun {y} hy=>by
  rcases List.mem_append.1 hy with hy | hy
  ·exact .inl hy
  ·exact .inr (List.mem_singleton.1 hy)
 have hrem:∀ j',rems (m.Deps++[(⟨m.Next,2,j,0,p,s,eS,false,false,0,[]⟩:Dep)]) j'=rems m.Deps j':=fun j'=>by
  simp [rems,List.countP_append]
 refine ⟨hR,?_,h.g,?_,?_,?_,?_,?_,?_,?_,?_,?_⟩
 ·intro y hy
  rcases hmem hy with hy | rfl
  ·exact h.sz y hy
  ·exact ⟨by show eS.size<=LEN; decide,by show ([]:List Int).length<=LEN; decide⟩
 ·intro y hy h5
  rcases hmem hy with hy | rfl
  ·exact h.fr y hy h5
  ·exact absurd h5 (by show ¬ (2:Int)=5; decide)
 ·rw [List.pairwise_append]
  refine ⟨h.frp,List.pairwise_singleton _ _,?_⟩
  intro a _ c hc _ h5
  rw [List.mem_singleton] at hc; subst hc
  exact absurd h5 (by show ¬ (2:Int)=5; decide)
 ·intro j'; rw [hrem]; exact h.lk j'
 ·intro j'; rw [hrem]; exact h.lk0 j'
 ·rw [hrem]; exact h.rt
 ·intro y hy h2
  rcases hmem hy with hy | rfl
  ·exact h.nd y hy h2
  ·exact ho
 ·intro y hy h4
  rcases hmem hy with hy | rfl
  ·obtain ⟨a,c⟩:=h.rd y hy h4
   refine ⟨a,?_⟩
   rcases c with c | c | ⟨f,hf,hf5,hfb⟩
   ·exact .inl c
   ·exact .inr (.inl c)
   ·exact .inr (.inr ⟨f,List.mem_append_left _ hf,hf5,hfb⟩)
  ·exact absurd h4 (by show ¬ (2:Int)=4; decide)
 ·rw [List.pairwise_append]
  refine ⟨h.us,List.pairwise_singleton _ _,?_⟩
  intro a ha c hc hn _ hb
  rw [List.mem_singleton] at hc; subst hc
  exact hf a ha hn hb
 ·intro y hy h4 hz
  rcases hmem hy with hy | rfl
  ·obtain ⟨z,hz,a,c⟩:=h.af y hy h4 hz
   exact ⟨z,List.mem_append_left _ hz,a,c⟩
  ·exact absurd h4 (by show ¬ (2:Int)=4; decide)
structure Fresh (m:Mem) (r:Int):Prop where
 b:B16 r
 p:∀ j k,I8 j->ptrO m.Disk j k≠r
 f:∀ f∈m.Deps,f.Kind=5->r∉f.Blocks
 n:∀ y∈m.Deps,isNm y=true->y.Block≠r
theorem Gd.fresh (h:Gd e [] m) {r:Int} (hr:B16 r) (hb:bitB m.Disk r=false):Fresh m r:=by
 have hr0:r≠0:=by obtain ⟨a,b⟩:=hr; omega
 have h1:∀ j k,I8 j->ptrO m.Disk j k≠r:=fun j k hj hh=>by
  have:=h.g.bm j k hj (by rw [hh]; exact hr0)
  rw [hh,hb] at this; cases this
 have h2:∀ f∈m.Deps,f.Kind=5->r∉f.Blocks:=fun f hf h5 hh=>by
  have:=((h.fr f hf h5).2.2.2 r hh).1
  rw [hb] at this; cases this
 have h3:¬ Own m.Disk r:=fun ⟨j,k,hj,_,c⟩=>h1 j k hj c
 refine ⟨hr,h1,h2,fun y hy hn hh=> ?_⟩
 rw [isNm_iff] at hn
 rcases hn with z | z | z
 ·exact h3 (hh▸h.nd y hy (.inl z))
 ·exact h3 (hh▸h.nd y hy (.inr z))
 ·rcases (h.rd y hy z).2 with c | c | ⟨f,hf,hf5,c⟩
  ·exact h3 (hh▸c)
  ·cases c
  ·exact h2 f hf hf5 (hh▸c)
theorem Gd.take (h:Gd e [] m) (hr:(takeBlock m).2≠0):Gd e [] (takeBlock m).1/\Fresh (takeBlock m).1 (takeBlock m).2/\bitB (takeBlock m).1.Disk (takeBlock m).2=true:=by
 have T:=h.T'
 revert hr
 simp only [takeBlock]
 cases hz:firstFree m.Disk.Bits.Blocks==0 with
 | true=>intro hr; exact absurd rfl hr
 | false =>
  intro _
  simp only [cond_false,mark_eq]
  rcases firstFree_spec m.Disk.Bits.Blocks with ⟨h1,_⟩ | ⟨j,h1,h2,h3,_⟩
  ·rw [h1] at hz; cases hz
  ·have hb:=T.bb
   rw [hb] at h2
   have hj:((firstFree m.Disk.Bits.Blocks)-1).toNat=j:=by omega
   have hB:B16 (firstFree m.Disk.Bits.Blocks):=⟨by omega,by omega⟩
   have hbit:bitB m.Disk (firstFree m.Disk.Bits.Blocks)=false:=by simp only [bitB,hj]; exact h3
   have hF:=h.fresh hB hbit
   have hg:=h.bits (bb:=m.Disk.Bits.Blocks.set (firstFree m.Disk.Bits.Blocks-1).toNat true) (bi:=m.Disk.Bits.Inos) (List.length_set.trans hb) T.bi (fun p hp hh=>by
    rw [getD_set]; split
    ·rfl
    ·exact hh) (fun _ _ hh=>hh)
   refine ⟨hg.dirty ((markD_len _ _).trans h.R.dy),⟨hF.b,hF.p,hF.f,hF.n⟩,?_⟩
   simp only [bitB,getD_set]
   rw [if_pos ⟨trivial,by omega⟩]
theorem takeBlock_same (m:Mem):(takeBlock m).1.Deps=m.Deps/\(takeBlock m).1.Next=m.Next/\(takeBlock m).1.Disk.Inodes=m.Disk.Inodes/\(takeBlock m).1.Disk.Blocks=m.Disk.Blocks:=by
 simp only [takeBlock]
 cases firstFree m.Disk.Bits.Blocks==0<;>simp [mark_eq]
theorem foldl_inv {α S:Type} {P:S->Prop} {g:S->α->S}:∀ (l:List α) (a:S),P a->(∀ a,∀ x∈l,P a->P (g a x))->P (l.foldl g a)
 | [],a,h,_=>h
 | x::l,a,h,hs=>foldl_inv l _ (hs a x List.mem_cons_self h) fun a y hy=>hs a y (List.mem_cons_of_mem _ hy)
theorem putIn_fst (m:Mem) (p:Int) (acc:Int×Int):putIn m p acc=acc\/(putIn m p acc).1=p:=by
 simp only [putIn]
 cases within p 1 m.Disk.Blocks.length&&(blkAt m.Disk p).Dir with
 | false=>exact .inl rfl
 | true =>
  simp only [cond_true]
  refine foldl_inv (P:=fun a=>a=acc\/a.1=p) _ _ (.inl rfl) fun a x _ ha=> ?_
  cases freeAt m p x with
  | true=>exact .inr rfl
  | false=>exact ha
theorem putAt_mem (m:Mem) (l:List Int):putAt m l=(0,0)\/∃ k,k<l.length/\l.getD k 0=(putAt m l).1:=by
 simp only [putAt]
 refine foldl_inv (P:=fun a=>a=(0,0)\/∃ k,k<l.length/\l.getD k 0=a.1) _ _ (.inl rfl) fun a x hx ha=> ?_
 have hx':x<l.length:=by simp [List.mem_range'] at hx; omega
 rcases putIn_fst m (l.getD x 0) a with h | h
 ·rw [h]; exact ha
 ·exact .inr ⟨x,hx',h.symm⟩
theorem freeAt_iff {p:Int} {s:Nat}:freeAt m p s=true↔slO m.Disk p s=dSlot/\depAt m p s=0:=by
 simp only [freeAt,Bool.and_eq_true,beq_iff_eq,slO]
 generalize (blkAt m.Disk p).Slots.getD s dSlot=x
 obtain ⟨n,i⟩:=x
 simp only [dSlot_eq,Slot.mk.injEq]
structure Into (m:Mem) (w:Int) (nm:ByteArray) (j:Int):Prop where
 w8:I8 w
 kw:kindO m.Disk w=2
 nmk:nameOk nm=true
 j8:I8 j
 cw:w=1\/cnt m.Disk w≠0
 no:∀ l t,ptrO m.Disk w l≠0->(slO m.Disk (ptrO m.Disk w l) t).Name≠nm
 dr:kindO m.Disk j=2->(∀ k,ptrO m.Disk j k=0)/\cnt m.Disk j=0/\∀ r,RK m.Disk r->r w<4
def addDep (id j p s:Int):Dep:=⟨id,2,j,0,p,s,eS,false,false,0,[]⟩
theorem Gd.set {j:Int} (h:Gd j X m) (hp:mayPut m=true) {w p s:Int} {nm:ByteArray} (hI:Into m w nm j) {k:Nat} (hpk:ptrO m.Disk w k=p) (hB:B16 p) (s0:0<=s) (s1:s<=3) (h0:slO m.Disk p s.toNat=dSlot) (hf:∀ y∈m.Deps,isNm y=true->y.Block=p->y.Slot≠s) :
  Gd 0 X (setName m p s nm j).1/\(setName m p s nm j).2=m.Next/\(setName m p s nm j).1=⟨slotIn m.Disk p s.toNat ⟨nm,j⟩,markD 0 (markD (unitOfBlock p) m.Dirty),m.Deps++[addDep m.Next j p s],m.Next+1⟩:=by
 have T:=h.T'
 have hp0:p≠0:=by obtain ⟨a,b⟩:=hB; omega
 have ho:Own m.Disk p:=⟨w,k,hI.w8,hI.kw,hpk⟩
 have hd:=h.g.ownDir ho hp0
 have hg:=h.named hB hI.w8 hI.kw hpk s0 s1 h0 hI.nmk hI.j8 hf hI.cw hI.no hI.dr
 have hg2:=hg.dirty (y:=markD 0 (markD (unitOfBlock p) m.Dirty)) ((markD_len _ _).trans ((markD_len _ _).trans h.R.dy))
 have hs:setName m p s nm j=(⟨slotIn m.Disk p s.toNat ⟨nm,j⟩,markD 0 (markD (unitOfBlock p) m.Dirty),m.Deps++[addDep m.Next j p s],m.Next+1⟩,m.Next):=by
  have:=putDep_may (m:=⟨slotIn m.Disk p s.toNat ⟨nm,j⟩,markD 0 (markD (unitOfBlock p) m.Dirty),m.Deps,m.Next⟩) hp ⟨0,2,j,0,p,s,eS,false,false,0,[]⟩
  exact this
 rw [hs]
 refine ⟨?_,rfl,rfl⟩
 refine hg2.putAdd hp hB ho s0 s1 hI.j8 ?_ hf
 show (slO (slotIn m.Disk p s.toNat ⟨nm,j⟩) p s.toNat).Ino=j
 rw [slotIn_sl T hB hd (by omega) _ hB,if_pos ⟨rfl,rfl⟩]
theorem firstZero_lt:∀ {l:List Int},firstZero l<l.length->l.getD (firstZero l) 0=0:=by
 intro l
 induction l with
 | nil=>intro h; cases h
 | cons a l ih =>
  simp only [firstZero,List.takeWhile_cons]
  cases ha:a==0 with
  | true=>intro _; simpa using ha
  | false =>
   simp only [Bool.not_false,if_true,List.length_cons]
   intro h
   exact ih (by simp only [firstZero]; omega)
structure Put (m:Mem) (j:Int) (t:Mem×Int):Prop where
 g:Gd 0 [] t.1
 len:t.1.Deps.length<=m.Deps.length+2
 nx:t.1.Next<=m.Next+2
 dep:∃ p s,addDep t.2 j p s∈t.1.Deps/\0<=s/\(Own m.Disk p->slO m.Disk p s.toNat=dSlot)
 own:∀ p,p≠0->Own m.Disk p->Own t.1.Disk p
 same:∀ q u,B16 q->Own m.Disk q->(slO m.Disk q u).Ino≠0->slO t.1.Disk q u=slO m.Disk q u
 kind:∀ i,I8 i->kindO t.1.Disk i=kindO m.Disk i
theorem putName_spec {j:Int} (h:Gd j [] m) (hl:m.Deps.length<=38) (hn:m.Next<=99998) {w:Int} {nm:ByteArray} (hI:Into m w nm j):(putName m w nm j).2=0\/Put m j (putName m w nm j):=by
 have T:=h.T'
 have hn1:=h.R.n1
 have hw8:=hI.w8
 have hw':1<=w/\w<=8:=hw8
 have hlen:(inoAt m.Disk w).Ptrs.length=2:=T.ptrs hw'.1 hw'.2
 simp only [putName]
 cases hz:(putAt m (inoAt m.Disk w).Ptrs).1==0 with
 | false =>
  simp only [cond_false]
  have h1:=(putAt_ok m (inoAt m.Disk w).Ptrs).resolve_left (by intro q; rw [q] at hz; cases hz)
  obtain ⟨k,hk,hpk⟩:=(putAt_mem m (inoAt m.Disk w).Ptrs).resolve_left (by intro q; rw [q] at hz; cases hz)
  generalize (putAt m (inoAt m.Disk w).Ptrs).1=p at *
  generalize (putAt m (inoAt m.Disk w).Ptrs).2=s at *
  have hB:B16 p:=⟨h1.p1,by have:=h1.p2; rw [T.db] at this; exact this⟩
  have s0:=h1.s0
  have s1:=h1.s1
  rw [blockS_len (T.blkR hB.1 hB.2) h1.dir] at s1
  obtain ⟨f1,f2⟩:=freeAt_iff.1 h1.free
  rw [Int.toNat_of_nonneg s0] at f2
  have hf:∀ y∈m.Deps,isNm y=true->y.Block=p->y.Slot≠s:=by
   rcases depAt_spec h.R p s with ⟨_,q⟩ | ⟨y,hy,_,_,_,q,_⟩
   ·exact q
   ·have:=(depNums_all (h.R.num y hy)).1; omega
  have ho:Own m.Disk p:=⟨w,k,hw8,hI.kw,hpk⟩
  obtain ⟨a,b,c⟩:=h.set (mayPut_iff.2 ⟨by omega,hn1,by omega⟩) hI hpk hB s0 (by omega) f1 hf
  refine .inr ⟨a,?_,?_,⟨p,s,?_,s0,fun _=>f1⟩,fun q _ hq=> ?_,fun q u hq hoq hne=> ?_,fun i hi=> ?_⟩
  ·rw [c]; show (m.Deps++[_]).length<=_; rw [List.length_append,List.length_singleton]; omega
  ·rw [c]; show m.Next+1<=_; omega
  ·rw [c,b]; exact List.mem_append_right _ (List.mem_singleton.2 rfl)
  ·rw [c]; exact hq
  ·rw [c]
   show slO (slotIn m.Disk p s.toNat ⟨nm,j⟩) q u=_
   rw [slotIn_sl T hB h1.dir (by omega) _ hq,if_neg]
   rintro ⟨rfl,rfl⟩; rw [f1] at hne; exact hne rfl
  ·rw [c]; rfl
 | true =>
  simp only [cond_true]
  cases hfz:firstZero (inoAt m.Disk w).Ptrs==(inoAt m.Disk w).Ptrs.length with
  | true=>exact .inl rfl
  | false =>
  simp only [cond_false]
  cases ht:(takeBlock m).2==0 with
  | true=>exact .inl rfl
  | false =>
  simp only [cond_false]
  have hx:firstZero (inoAt m.Disk w).Ptrs<(inoAt m.Disk w).Ptrs.length:=by
   have:=firstZero_le (inoAt m.Disk w).Ptrs
   have h2:firstZero (inoAt m.Disk w).Ptrs≠(inoAt m.Disk w).Ptrs.length:=by simpa using hfz
   omega
  have hx0:=firstZero_lt hx
  rw [hlen] at hx
  generalize firstZero (inoAt m.Disk w).Ptrs=x at *
  obtain ⟨g1,F,hbit⟩:=h.take (by simpa using ht)
  obtain ⟨t1,t2,t3,t4⟩:=takeBlock_same m
  generalize takeBlock m=t at *
  have e1:∀ i,inoAt t.1.Disk i=inoAt m.Disk i:=fun i=>by simp only [inoAt,t3]
  have ek:∀ i,kindO t.1.Disk i=kindO m.Disk i:=fun i=>by simp only [kindO,e1]
  have ep:∀ i k,ptrO t.1.Disk i k=ptrO m.Disk i k:=fun i k=>by simp only [ptrO,e1]
  have es:∀ q u,slO t.1.Disk q u=slO m.Disk q u:=fun q u=>by simp only [slO,blkAt,t4]
  have eo:∀ p,Own t.1.Disk p↔Own m.Disk p:=own_same (fun i _=>ek i) (fun i k _=>ep i k)
  have T1:=g1.T'
  have ec:∀ i,cnt t.1.Disk i=cnt m.Disk i:=cnt_same T.di T1.di (fun i _=>ek i) (fun i k _=>ep i k) t4
  have hgr:=g1.grow (mayPut_iff.2 ⟨by rw [t1]; omega,by rw [t2]; omega,by rw [t2]; omega⟩) (i:=w) hw8 (by rw [ek,hI.kw]; decide) (x:=x) (by omega) (by rw [ep]; exact hx0) F.b hbit F.p F.f F.n (b:=⟨true,List.replicate 4 dSlot,eS⟩) (by decide) (by rw [ek,hI.kw]; simp) (fun s=>by
   match s with
   | 0=>rfl
   | 1=>rfl
   | 2=>rfl
   | 3=>rfl
   | s+4=>rfl)
  have hgd:growDir t.1 w x t.2=⟨(growM t.1 w x t.2 ⟨true,List.replicate 4 dSlot,eS⟩).Disk,markD (unitOfIno w) (markD (unitOfBlock t.2) t.1.Dirty),(growM t.1 w x t.2 ⟨true,List.replicate 4 dSlot,eS⟩).Deps,t.1.Next+1⟩:=by
   have:=putDep_may (m:=⟨inoSet (blkSet t.1.Disk t.2 ⟨true,List.replicate 4 dSlot,eS⟩) w (ptrSet (inoAt t.1.Disk w) x t.2),markD (unitOfIno w) (markD (unitOfBlock t.2) t.1.Dirty),t.1.Deps,t.1.Next⟩) (mayPut_iff.2 ⟨by rw [t1]; omega,by rw [t2]; omega,by rw [t2]; omega⟩) ⟨0,1,w,x,t.2,0,eS,false,false,0,[]⟩
   simp only [growDir]; rw [this]; rfl
  have hg2:=hgr.dirty (y:=markD (unitOfIno w) (markD (unitOfBlock t.2) t.1.Dirty)) ((markD_len _ _).trans ((markD_len _ _).trans g1.R.dy))
  have hg2':Gd j [] (growDir t.1 w x t.2):=by rw [hgd]; exact hg2
  have h8b:(blkSet t.1.Disk t.2 ⟨true,List.replicate 4 dSlot,eS⟩).Inodes.length=8:=T1.di
  have gk:∀ i,I8 i->kindO (growDir t.1 w x t.2).Disk i=kindO m.Disk i:=fun i hi=>by
   rw [hgd]
   show kindO (inoSet (blkSet t.1.Disk t.2 _) w _) i=_
   rw [kindO_inoSet h8b hw8 hi]; split
   ·next q=>rw [q]; exact ek w
   ·exact ek i
  have gp:∀ i k,I8 i->ptrO (growDir t.1 w x t.2).Disk i k=if i=w/\k=x then t.2 else ptrO m.Disk i k:=fun i k hi=>by
   rw [hgd]
   show ptrO (inoSet (blkSet t.1.Disk t.2 _) w _) i k=_
   rw [ptrO_inoSet h8b hw8 hi]
   by_cases hh:i=w
   ·subst hh
    have hl2:(inoAt t.1.Disk i).Ptrs.length=2:=by rw [e1]; exact hlen
    simp only [if_true,true_and,ptrSet,getD_set,hl2]
    by_cases hk:k=x
    ·rw [if_pos ⟨hk,by omega⟩,if_pos hk]
    ·rw [if_neg (by omega),if_neg hk]; exact ep i k
   ·rw [if_neg hh,if_neg (fun q=>hh q.1)]; exact ep i k
  have gs:∀ q u,B16 q->slO (growDir t.1 w x t.2).Disk q u=if q=t.2 then dSlot else slO m.Disk q u:=fun q u hq=>by
   rw [hgd]
   show slO (blkSet t.1.Disk t.2 ⟨true,List.replicate 4 dSlot,eS⟩) q u=_
   simp only [slO,blkAt_blkSet T1.db F.b hq]
   split
   ·match u with
    | 0=>rfl
    | 1=>rfl
    | 2=>rfl
    | 3=>rfl
    | u+4=>rfl
   ·exact es q u
  have hnO:¬ Own m.Disk t.2:=fun ⟨a,k,ha,_,hc⟩=>F.p a k ha (by rw [ep]; exact hc)
  have go:∀ p,p≠0->Own m.Disk p->Own (growDir t.1 w x t.2).Disk p:=fun p hp0 ⟨a,k,ha,hb,hc⟩=>by
   refine ⟨a,k,ha,by rw [gk a ha]; exact hb,?_⟩
   rw [gp a k ha,if_neg]
   ·exact hc
   ·rintro ⟨rfl,rfl⟩
    have:ptrO m.Disk a k=0:=hx0
    rw [this] at hc; exact hp0 hc.symm
  have gc:∀ i,i≠0->(cnt (growDir t.1 w x t.2).Disk i=0↔cnt m.Disk i=0):=fun i hi0=>by
   rw [hg2'.T'.cnt0 hi0,T.cnt0 hi0]
   constructor
   ·intro q p s hp ho
    have:=q p s hp (go p (by obtain ⟨a,b⟩:=hp; omega) ho)
    rw [gs p s hp,if_neg (show ¬ p=t.2 from fun z=>hnO (z▸ho))] at this; exact this
   ·rintro q p s hp ⟨a,k,ha,hb,hc⟩
    rw [gs p s hp]; split
    ·exact hi0.symm
    ·next hne =>
     rw [gk a ha] at hb; rw [gp a k ha] at hc
     split at hc
     ·exact absurd hc.symm hne
     ·exact q p s hp ⟨a,k,ha,hb,hc⟩
  have hI2:Into (growDir t.1 w x t.2) w nm j:=by
   refine ⟨hw8,by rw [gk w hw8]; exact hI.kw,hI.nmk,hI.j8,?_,?_,?_⟩
   ·rcases hI.cw with q | q
    ·exact .inl q
    ·exact .inr fun z=>q ((gc w (by omega)).1 z)
   ·intro l u; rw [gp w l hw8]; split
    ·intro _; rw [gs _ _ F.b,if_pos rfl]; exact fun q=>nameOk_ne hI.nmk q.symm
    ·intro q
     rw [gs _ _ (T.ptrB hw8 q),if_neg (fun z=>F.p w l hw8 (by rw [ep]; exact z))]; exact hI.no l u q
   ·intro q; rw [gk j hI.j8] at q
    obtain ⟨q1,q2,q3⟩:=hI.dr q
    have hjw:j≠w\/j=w:=(Decidable.em _).symm
    have hjw':j≠w:=fun z=>by
     subst z
     have hc0:=hI.cw
     rcases hc0 with z | z
     ·exact h.rt.2 z
     ·exact z q2
    refine ⟨fun k=>by rw [gp j k hI.j8,if_neg (fun z=>hjw' z.1)]; exact q1 k,(gc j (by have:=hI.j8; obtain ⟨a,b⟩:=this; omega)).2 q2,fun r hr=>q3 r ⟨hr.1,fun a k s ha hb hc hd he=> ?_⟩⟩
    have:=hr.2 a k s ha (by rw [gk a ha]; exact hb)
    have hne:¬ (a=w/\k=x):=by rintro ⟨rfl,rfl⟩; exact hc hx0
    rw [gp a k ha,if_neg hne,gs _ _ (T.ptrB ha hc),if_neg (fun z=>F.p a k ha (by rw [ep]; exact z))] at this
    exact this hc hd (by rw [gk _ (T.inoI (T.ptrB ha hc) hd)]; exact he)
  have gn:(growDir t.1 w x t.2).Next=m.Next+1:=by rw [hgd]; show t.1.Next+1=_; rw [t2]
  have gl:(growDir t.1 w x t.2).Deps.length=m.Deps.length+1:=by rw [hgd]; show (t.1.Deps++[_]).length=_; rw [List.length_append,List.length_singleton,t1]
  have hf:∀ y∈(growDir t.1 w x t.2).Deps,isNm y=true->y.Block=t.2->y.Slot≠0:=by
   intro y hy hny hyb
   rw [hgd] at hy
   rcases List.mem_append.1 hy with hy | hy
   ·exact absurd hyb (F.n y hy hny)
   ·rw [List.mem_singleton] at hy; subst hy
    rw [isNm_iff] at hny
    have:((1:Int)=2\/(1:Int)=3\/(1:Int)=4):=hny
    omega
  obtain ⟨a,b,c⟩:=hg2'.set (mayPut_iff.2 ⟨by rw [gl]; omega,by rw [gn]; omega,by rw [gn]; omega⟩) hI2 (k:=x) (p:=t.2) (s:=0) (by rw [gp w x hw8,if_pos ⟨rfl,rfl⟩]) F.b (by decide) (by decide) (by rw [gs _ _ F.b,if_pos rfl]) hf
  have hdir:(blkAt (growDir t.1 w x t.2).Disk t.2).Dir=true:=hg2'.g.ownDir ⟨w,x,hw8,by rw [gk w hw8]; exact hI.kw,by rw [gp w x hw8,if_pos ⟨rfl,rfl⟩]⟩ (by have:=F.b; obtain ⟨a,b⟩:=this; omega)
  refine .inr ⟨a,?_,?_,⟨t.2,0,?_,by decide,fun q=>absurd q hnO⟩,fun q hq0 hq=> ?_,fun q u hq hoq hne=> ?_,fun i hi=> ?_⟩
  ·rw [c]; show ((growDir t.1 w x t.2).Deps++[_]).length<=_; rw [List.length_append,List.length_singleton,gl]; omega
  ·rw [c]; show (growDir t.1 w x t.2).Next+1<=_; rw [gn]; omega
  ·rw [c,b]; exact List.mem_append_right _ (List.mem_singleton.2 rfl)
  ·rw [c]; exact go q hq0 hq
  ·rw [c]
   show slO (slotIn (growDir t.1 w x t.2).Disk t.2 (0:Int).toNat ⟨nm,j⟩) q u=_
   have hq2:q≠t.2:=fun z=>hnO (z▸hoq)
   rw [slotIn_sl hg2'.T' F.b hdir (by decide) _ hq,if_neg (fun z=>hq2 z.1),gs q u hq,if_neg hq2]
  ·rw [c]; exact gk i hi
theorem nmB_ne {b:UInt8} (h:nmB b=true):(b==47)=false:=by
 rw [beq_eq_false_iff_ne]
 rintro rfl
 exact absurd h (by decide)
theorem segs_run:∀ (x cur rest:List UInt8),(∀ b∈x,(b==47)=false)->segs cur (x++rest)=segs (cur++x) rest
 | [],cur,rest,_=>by simp
 | b::x,cur,rest,h=>by
  rw [List.cons_append]
  simp only [segs,h b List.mem_cons_self,cond_false]
  rw [segs_run x _ rest fun c hc=>h c (List.mem_cons_of_mem _ hc),List.append_assoc]; rfl
theorem nameOk_bytes {s:ByteArray} (h:nameOk s=true):∀ b∈s.data.toList,(b==47)=false:=fun b hb=>by
 simp only [nameOk,Bool.and_eq_true,List.all_eq_true] at h
 exact nmB_ne (h.1 b hb)
def pathB (l:List ByteArray):List UInt8:=l.flatMap fun x=>47::x.data.toList
theorem segs_join:∀ (xs:List ByteArray) (cur:List UInt8),(∀ y∈xs,nameOk y=true)->segs cur (pathB xs)=mkS cur::xs
 | [],cur,_=>rfl
 | y::xs,cur,h=>by
  have hy:=h y List.mem_cons_self
  show segs cur (47::(y.data.toList++pathB xs))=_
  simp only [segs,beq_self_eq_true,cond_true]
  rw [segs_run _ _ _ (nameOk_bytes hy),List.nil_append,segs_join xs _ fun z hz=>h z (List.mem_cons_of_mem _ hz)]
  rfl
theorem joinPath_bytes (l:List ByteArray):(joinPath l).data.toList=pathB l:=by
 have:∀ (l:List ByteArray) (a:ByteArray),(l.foldl (fun s x=>(s++S [47])++x) a).data.toList=a.data.toList++pathB l:=by
  intro l
  induction l with
  | nil=>intro a; simp [pathB]
  | cons x l ih =>
   intro a
   rw [List.foldl_cons,ih]
   simp only [ByteArray.data_append,Array.toList_append,pathB,List.flatMap_cons,List.append_assoc]
   rfl
 exact this l eS
theorem splitPath_join {l:List ByteArray} (h0:l≠[]) (h:∀ y∈l,nameOk y=true) (h4:l.length<=4):splitPath (joinPath l)=(l,true):=by
 match l,h0 with
 | x::xs,_ =>
  have hx:=h x List.mem_cons_self
  have hb:(joinPath (x::xs)).data.toList=47::(x.data.toList++pathB xs):=joinPath_bytes _
  have hne:∃ c t,x.data.toList=c::t:=by
   have:=(nameOk_size hx).1
   cases hd:x.data.toList with
   | nil=>rw [size_eq,hd] at this; simp at this
   | cons c t=>exact ⟨c,t,rfl⟩
  obtain ⟨c,t,hct⟩:=hne
  have hs:segs [] (x.data.toList++pathB xs)=x::xs:=by
   rw [segs_run _ _ _ (nameOk_bytes hx),List.nil_append,segs_join xs _ fun z hz=>h z (List.mem_cons_of_mem _ hz)]
   rfl
  simp only [splitPath,hb,beq_self_eq_true,cond_true]
  rw [hct,List.cons_append] at hs ⊢
  simp only [hs]
  have ha:((x::xs).all nameOk&&decide ((x::xs).length<=4))=true:=by
   rw [Bool.and_eq_true,List.all_eq_true,decide_eq_true_eq]; exact ⟨h,h4⟩
  rw [ha]; rfl
theorem splitPath_root:splitPath (S [47])=([],true):=rfl
theorem splitDir_spec2 {p:ByteArray} (h:(splitDir p).2.2=true):∃ l x,splitPath p=(l++[x],true)/\splitPath (splitDir p).1=(l,true)/\(splitDir p).2.1=x/\nameOk x=true/\(∀ y∈l,nameOk y=true)/\l.length<=3:=by
 simp only [splitDir] at h ⊢
 cases h2:(splitPath p).2 with
 | false=>rw [h2] at h; cases h
 | true =>
  obtain ⟨hnm,hlen⟩:=splitPath_names h2
  rw [h2] at h
  generalize hl:(splitPath p).1=l at *
  cases hz:l.length==0 with
  | true=>rw [hz] at h; cases h
  | false =>
   have h0:l≠[]:=by rintro rfl; cases hz
   have hlast:l=l.dropLast++[l.getLast h0]:=(List.dropLast_concat_getLast h0).symm
   rw [List.all_eq_true] at hnm
   have hd:∀ y∈l.dropLast,nameOk y=true:=fun y hy=>hnm y (List.dropLast_subset _ hy)
   have hdl:l.dropLast.length<=3:=by simp; omega
   refine ⟨l.dropLast,l.getLast h0,?_,?_,?_,hnm _ (List.getLast_mem h0),hd,hdl⟩
   ·rw [← hlast,← hl,← h2]
   ·simp only [Bool.not_true,Bool.false_or,cond_false]
    by_cases hn:l.dropLast=[]
    ·have:(joinPath l.dropLast==eS)=true:=by rw [hn]; rfl
     rw [this,cond_true,hn]; exact splitPath_root
    ·have:(joinPath l.dropLast==eS)=false:=by
      rw [beq_eq_false_iff_ne]; intro q
      have h3:=joinPath_bytes l.dropLast
      rw [q] at h3
      cases hdd:l.dropLast with
      | nil=>exact hn hdd
      | cons a b=>rw [hdd] at h3; cases h3
     rw [this,cond_false]; exact splitPath_join hn hd (by omega)
   ·simp only [Bool.not_true,Bool.false_or,cond_false]
    have hp:0<l.length:=List.length_pos_iff.2 h0
    rw [getD_get _ _ (by omega:l.length-1<l.length),List.getLast_eq_getElem]
structure FoundIn (d:Disk) (w:Int) (nm:ByteArray) (f:Int×Int×Int):Prop where
 w8:I8 w
 kw:kindO d w=2
 ptr:∃ k,ptrO d w k=f.1
 b:B16 f.1
 s:0<=f.2.1/\f.2.1<=3
 sl:slO d f.1 f.2.1.toNat=⟨nm,f.2.2⟩
 i8:I8 f.2.2
theorem FoundIn.own {w:Int} {nm:ByteArray} {f:Int×Int×Int} (h:FoundIn d w nm f):Own d f.1:=by
 obtain ⟨k,hk⟩:=h.ptr
 exact ⟨w,k,h.w8,h.kw,hk⟩
theorem slotOf_spec {b:Block} {nm:ByteArray} (hn:nm≠eS):(slotOf b nm= -1/\∀ s,(b.Slots.getD s dSlot).Name≠nm)\/∃ j:Nat,slotOf b nm=j/\j<b.Slots.length/\(b.Slots.getD j dSlot).Name=nm:=by
 have hz:(nm==eS)=false:=beq_eq_false_iff_ne.2 hn
 simp only [slotOf,hz,cond_false]
 rcases placeIn_ge (fun s:Slot=>s.Name==nm) b.Slots with h | ⟨j,h,hj⟩
 ·refine .inl ⟨h,fun s=> ?_⟩
  have key:∀ l:List Slot,placeIn (fun s:Slot=>s.Name==nm) l= -1->∀ x∈l,x.Name≠nm:=by
   intro l
   induction l with
   | nil=>intro _ x hx; cases hx
   | cons y l ih =>
    intro hp x hx
    simp only [placeIn] at hp
    cases hy:y.Name==nm with
    | true=>rw [hy] at hp; have hp':(0:Int)= -1:=hp; omega
    | false =>
     rw [hy] at hp
     simp only [cond_false] at hp
     rcases List.mem_cons.1 hx with rfl | hx
     ·simpa using hy
     ·refine ih ?_ x hx
      rcases placeIn_ge (fun s:Slot=>s.Name==nm) l with q | ⟨j,q,_⟩
      ·exact q
      ·rw [q] at hp; have hp':((j+1:Nat):Int)= -1:=hp; omega
  by_cases hs:s<b.Slots.length
  ·exact key _ h _ (getD_mem dSlot hs)
  ·rw [List.getD_eq_getElem?_getD,List.getElem?_eq_none (Nat.le_of_not_lt hs)]
   exact fun q=>hn q.symm
 ·refine .inr ⟨j,h,hj,?_⟩
  have:=placeIn_P (fun s:Slot=>s.Name==nm) dSlot _ j h
  simpa using this
theorem find_in (T:DiskT d) {w:Int} {nm:ByteArray} (hn:nameOk nm=true):(find d w nm=(0,0,0)/\(I8 w->kindO d w=2->(∀ k,ptrO d w k≠0->(blkAt d (ptrO d w k)).Dir=true)->∀ k t,ptrO d w k≠0->(slO d (ptrO d w k) t).Name≠nm))\/FoundIn d w nm (find d w nm):=by
 simp only [find,T.di]
 cases hc:within w 1 (8:Nat)&&(inoAt d w).Kind==2 with
 | false =>
  refine .inl ⟨rfl,fun h8 hk=> ?_⟩
  rw [show within w 1 ((8:Nat):Int)=true from within_iff.2 ⟨h8.1,h8.2⟩,show (inoAt d w).Kind=2 from hk] at hc; cases hc
 | true =>
  simp only [Bool.and_eq_true,within_iff,beq_iff_eq] at hc
  simp only [cond_true]
  have key:∀ (l:List Int),(∀ p∈l,p=0\/B16 p)->(findIn d nm l=(0,0,0)/\∀ p∈l,p≠0->(blkAt d p).Dir=true->∀ t,(slO d p t).Name≠nm) \/
    (findIn d nm l).1∈l/\B16 (findIn d nm l).1/\(0<=(findIn d nm l).2.1/\(findIn d nm l).2.1<=3)/\slO d (findIn d nm l).1 (findIn d nm l).2.1.toNat=⟨nm,(findIn d nm l).2.2⟩/\I8 (findIn d nm l).2.2:=by
   intro l
   induction l with
   | nil=>intro _; exact .inl ⟨rfl,fun p hp=>by cases hp⟩
   | cons p l ih =>
    intro hl
    have ih:=ih fun q hq=>hl q (List.mem_cons_of_mem _ hq)
    simp only [findIn]
    cases hf:((block? d p).2&&(block? d p).1.Dir)&&decide (0<=slotOf (block? d p).1 nm) with
    | true =>
     simp only [Bool.and_eq_true,decide_eq_true_eq] at hf
     simp only [cond_true]
     have hw:within p 1 d.Blocks.length=true:=by
      cases hw:within p 1 d.Blocks.length with
      | true=>rfl
      | false=>simp only [block?,hw,cond_false] at hf; exact absurd hf.1.1 (by decide)
     have hb:block? d p=(blkAt d p,true):=by simp only [block?,hw,cond_true]
     rw [hb] at hf ⊢
     rw [within_iff,T.db] at hw
     have hB:B16 p:=⟨hw.1,hw.2⟩
     rcases slotOf_spec (b:=blkAt d p) (nameOk_ne hn) with ⟨q,_⟩ | ⟨j,q,hj,hnm⟩
     ·exact absurd hf.2 (by show ¬ 0<=slotOf (blkAt d p) nm; rw [q]; decide)
     ·have h4:=blockS_len (T.blkR hB.1 hB.2) hf.1.2
      refine .inr ⟨List.mem_cons_self,hB,?_,?_,?_⟩
      ·show 0<=slotOf (blkAt d p) nm/\slotOf (blkAt d p) nm<=3; rw [q]; omega
      ·show slO d p (slotOf (blkAt d p) nm).toNat=⟨nm,((blkAt d p).Slots.getD (slotOf (blkAt d p) nm).toNat dSlot).Ino⟩
       rw [q,Int.toNat_natCast,← hnm]; rfl
      ·show I8 ((blkAt d p).Slots.getD (slotOf (blkAt d p) nm).toNat dSlot).Ino
       rw [q,Int.toNat_natCast]
       rcases T.slot' hB j with z | z
       ·have z':(blkAt d p).Slots.getD j dSlot=dSlot:=z
        rw [z'] at hnm; exact absurd hnm.symm (nameOk_ne hn)
       ·exact z.2.2.2
    | false =>
     simp only [cond_false]
     rcases ih with ⟨h1,h2⟩ | ⟨h1,h2⟩
     ·refine .inl ⟨h1,fun q hq hq0 hqd t=> ?_⟩
      rcases List.mem_cons.1 hq with rfl | hq
      ·have hB:=(hl q List.mem_cons_self).resolve_left hq0
       have hw:within q 1 d.Blocks.length=true:=by rw [within_iff,T.db]; exact ⟨hB.1,hB.2⟩
       have hb:block? d q=(blkAt d q,true):=by simp only [block?,hw,cond_true]
       rw [hb] at hf
       simp only [hqd,Bool.true_and,decide_eq_false_iff_not] at hf
       rcases slotOf_spec (b:=blkAt d q) (nameOk_ne hn) with ⟨_,z⟩ | ⟨j,z,_⟩
       ·exact z t
       ·rw [z] at hf; omega
      ·exact h2 q hq hq0 hqd t
     ·exact .inr ⟨List.mem_cons_of_mem _ h1,h2⟩
  have hw8:I8 w:=⟨hc.1.1,hc.1.2⟩
  have hP:∀ p∈(inoAt d w).Ptrs,p=0\/B16 p:=fun p hp=>by
   by_cases h0:p=0
   ·exact .inl h0
   ·obtain ⟨k,hk⟩:=(mem_getD h0).1 hp
    have hk':ptrO d w k=p:=hk
    exact .inr (hk'▸T.ptrB hw8 (by rw [hk']; exact h0))
  rcases key _ hP with ⟨h1,h2⟩ | ⟨h1,h2,h3,h4,h5⟩
  ·refine .inl ⟨h1,fun _ _ hd k t h0=> ?_⟩
   exact h2 (ptrO d w k) ((mem_getD h0).2 ⟨k,rfl⟩) h0 (hd k h0) t
  ·refine .inr ⟨hw8,hc.2,?_,h2,h3,h4,h5⟩
   exact (mem_getD (by obtain ⟨a,b⟩:=h2; omega)).1 h1
theorem walkFrom_snoc (x:ByteArray):∀ (l:List ByteArray) (i:Int),walkFrom d i (l++[x])=bif within (find d (walkFrom d i l) x).2.2 1 d.Inodes.length then (find d (walkFrom d i l) x).2.2 else 0
 | [],i=>rfl
 | y::l,i=>by
  rw [List.cons_append]
  simp only [walkFrom]
  cases within (find d i y).2.2 1 d.Inodes.length with
  | true=>exact walkFrom_snoc x l _
  | false =>
   simp only [cond_false]
   have:find d 0 x=(0,0,0):=by simp only [find]; rw [show within 0 1 d.Inodes.length=false by simp [within]]; rfl
   rw [this,show within (0,0,0).2.2 1 d.Inodes.length=false by simp [within]]; rfl
theorem walk_spec (T:DiskT d) (g:DG d):∀ (l:List ByteArray) (i:Int),(∀ y∈l,nameOk y=true)->I8 i->(i=1\/cnt d i≠0)->kindO d i≠0->walkFrom d i l=0\/(I8 (walkFrom d i l)/\(walkFrom d i l=1\/cnt d (walkFrom d i l)≠0)/\kindO d (walkFrom d i l)≠0/\∀ r,RK d r->kindO d (walkFrom d i l)=2->r (walkFrom d i l)=r i+l.length/\kindO d i=2)
 | [],i,_,hi,hc,hk=> .inr ⟨hi,hc,hk,fun r _ h2=>⟨rfl,h2⟩⟩
 | x::l,i,hl,hi,hc,hk=>by
  simp only [walkFrom,T.di]
  rcases find_in T (w:=i) (hl x List.mem_cons_self) with ⟨h1,_⟩ | F
  ·rw [h1,show within (0,0,0).2.2 1 (8:Nat)=false by simp [within]]; exact .inl rfl
  ·have h8:=F.i8
   have hS:=F.sl
   have hB:=F.b
   have hO:=F.own
   obtain ⟨kk,hkk⟩:=F.ptr
   generalize find d i x=f at *
   rw [show within f.2.2 1 ((8:Nat):Int)=true from within_iff.2 ⟨h8.1,h8.2⟩,cond_true]
   have hj0:f.2.2≠0:=by obtain ⟨a,b⟩:=h8; omega
   have hI:(slO d f.1 f.2.1.toNat).Ino=f.2.2:=by rw [hS]
   have hnm:=g.nm f.1 f.2.1.toNat hB hO (by rw [hI]; exact hj0)
   rw [hI] at hnm
   have hcn:cnt d f.2.2≠0:=fun z=>(T.cnt0 hj0).1 z f.1 f.2.1.toNat hB hO hI
   rcases walk_spec T g l f.2.2 (fun y hy=>hl y (List.mem_cons_of_mem _ hy)) h8 (.inr hcn) hnm.1 with q | ⟨q1,q2,q3,q4⟩
   ·exact .inl q
   ·refine .inr ⟨q1,q2,q3,fun r hr h2=> ?_⟩
    obtain ⟨q5,q6⟩:=q4 r hr h2
    have hf0:f.1≠0:=by obtain ⟨a,b⟩:=hB; omega
    have:=hr.2 i kk f.2.1.toNat hi F.kw (by rw [hkk]; exact hf0)
    rw [hkk,hI] at this
    have:=(this hj0 q6).1
    exact ⟨by rw [q5,this,List.length_cons]; omega,F.kw⟩
def remA (l:List Dep):Nat:=l.countP fun d=>d.Kind==4
structure MInv (m:Mem):Prop where
 g:Gd 0 [] m
 len:m.Deps.length<=36
 pot:m.Next+remA m.Deps<=99100
theorem remA_le (l:List Dep):remA l<=l.length:=List.countP_le_length
theorem MInv.of (g:Gd 0 [] m) (h1:m.Deps.length<=36) (h2:m.Next<=99064):MInv m:=⟨g,h1,by have:=remA_le m.Deps; omega⟩
theorem room_iff:room m=true↔m.Deps.length<=32/\m.Next<=99000:=by
 simp only [room,Bool.and_eq_true,decide_eq_true_eq]; omega
theorem putDep_len (m:Mem) (x:Dep):(putDep m x).1.Deps.length<=m.Deps.length+1/\(putDep m x).1.Next<=m.Next+1:=by
 simp only [putDep]
 cases mayPut m with
 | false=>exact ⟨by simp,by simp only [cond_false]; omega⟩
 | true=>simp
theorem lose_len (i:Int) (m:Mem):(lose i m).Deps.length<=m.Deps.length+1/\(lose i m).Next<=m.Next+1:=by
 simp only [lose]
 cases decide (40<=(m.Deps.length:Int))|| !within m.Next 1 99999 with
 | true=>exact ⟨by simp,by simp only [cond_true]; omega⟩
 | false =>
  simp only [cond_false]
  cases decide (0<(fewer (inoAt m.Disk i)).Links)||((fewer (inoAt m.Disk i)).Kind==0) with
  | true=>exact ⟨by simp,by simp only [cond_true]; omega⟩
  | false =>
   simp only [cond_false]
   have:=putDep_len ⟨inoSet m.Disk i (inodeNew 0),markD (unitOfIno i) m.Dirty,m.Deps.filter (stays i),m.Next⟩ ⟨0,5,i,0,0,0,eS,false,false,0,(inoAt m.Disk i).Ptrs.filter fun p=>decide (0<p)⟩
   exact ⟨Nat.le_trans this.1 (Nat.succ_le_succ (List.length_filter_le _ _)),this.2⟩
theorem shown_len (id b:Int) (m:Mem):(shown id b m).Deps.length<=m.Deps.length:=by
 simp only [shown,List.length_map]; exact List.length_filter_le _ _
theorem nameGone_len (m:Mem) (p s b:Int):(nameGone m p s b).Deps.length<=m.Deps.length+1/\(nameGone m p s b).Next<=m.Next+1:=by
 simp only [nameGone]
 cases (kindOf m (depAt m p s)==2)||(kindOf m (depAt m p s)==3) with
 | true =>
  simp only [cond_true]
  have:=lose_len (slotAt m p s).Ino (shown (depAt m p s) b (goneM m p s))
  have h2:=shown_len (depAt m p s) b (goneM m p s)
  exact ⟨Nat.le_trans this.1 (Nat.succ_le_succ h2),this.2⟩
 | false=>exact putDep_len _ _
theorem Gd.takeI (h:Gd e [] m) (hr:(takeIno m).2≠0):Gd e [] (takeIno m).1/\I8 (takeIno m).2/\bitI m.Disk (takeIno m).2=false/\bitI (takeIno m).1.Disk (takeIno m).2=true /\
  (takeIno m).1.Deps=m.Deps/\(takeIno m).1.Next=m.Next/\(takeIno m).1.Disk.Inodes=m.Disk.Inodes/\(takeIno m).1.Disk.Blocks=m.Disk.Blocks:=by
 have T:=h.T'
 revert hr
 simp only [takeIno]
 cases hz:firstFree m.Disk.Bits.Inos==0 with
 | true=>intro hr; exact absurd rfl hr
 | false =>
  intro _
  simp only [cond_false,mark_eq]
  rcases firstFree_spec m.Disk.Bits.Inos with ⟨h1,_⟩ | ⟨j,h1,h2,h3,_⟩
  ·rw [h1] at hz; cases hz
  ·have hb:=T.bi
   rw [hb] at h2
   have hj:((firstFree m.Disk.Bits.Inos)-1).toNat=j:=by omega
   have hB:I8 (firstFree m.Disk.Bits.Inos):=⟨by omega,by omega⟩
   have hg:=h.bits (bb:=m.Disk.Bits.Blocks) (bi:=m.Disk.Bits.Inos.set (firstFree m.Disk.Bits.Inos-1).toNat true) T.bb (List.length_set.trans hb) (fun _ _ hh=>hh) (fun p hp hh=>by
    rw [getD_set]; split
    ·rfl
    ·exact hh)
   refine ⟨hg.dirty ((markD_len _ _).trans h.R.dy),hB,by simp only [bitI,hj]; exact h3,?_,trivial,trivial,trivial,trivial⟩
   simp only [bitI,getD_set]
   rw [if_pos ⟨trivial,by omega⟩]
theorem lay_same (T:DiskT d) {i k:Int} (hi:I8 i) (hk:k=1\/k=2) (h0:kindO d i=0):(∀ j,I8 j->kindO (inoSet d i (inodeNew k)) j=if j=i then k else kindO d j)/\(∀ j kk,I8 j->ptrO (inoSet d i (inodeNew k)) j kk=ptrO d j kk) /\
  (∀ j,cnt (inoSet d i (inodeNew k)) j=cnt d j)/\(∀ kk,ptrO d i kk=0)/\∀ p,p≠0->(Own (inoSet d i (inodeNew k)) p↔Own d p):=by
 have hN:inodeNew k=⟨k,1,[0,0]⟩:=by rcases hk with rfl | rfl<;>rfl
 have hz:∀ kk,([0,0]:List Int).getD kk 0=0:=fun kk=>by
  match kk with
  | 0=>rfl
  | 1=>rfl
  | n+2=>rfl
 have hold:∀ kk,ptrO d i kk=0:=fun kk=>by
  have h1:=T.inoR hi.1 hi.2
  simp only [inodeOk,Bool.and_eq_true,List.all_eq_true] at h1
  by_cases hlt:kk<(inoAt d i).Ptrs.length
  ·have:=(h1.2.2.2.1 _ (getD_mem 0 hlt)).2
   have h2:(inoAt d i).Kind=0:=h0
   rw [h2] at this
   have h3:((inoAt d i).Ptrs.getD kk 0==0)=true:=this
   exact beq_iff_eq.1 h3
  ·simp [ptrO,List.getD_eq_getElem?_getD,List.getElem?_eq_none (Nat.le_of_not_lt hlt)]
 rw [hN]
 have hkk:=fun {j} (hj:I8 j)=>kindO_inoSet T.di hi hj ⟨k,1,[0,0]⟩
 have hpp:∀ j kk,I8 j->ptrO (inoSet d i ⟨k,1,[0,0]⟩) j kk=ptrO d j kk:=fun j kk hj=>by
  rw [ptrO_inoSet T.di hi hj]; split
  ·next hh=>rw [hh,hold,hz]
  ·rfl
 have hO:∀ p,p≠0->(Own (inoSet d i ⟨k,1,[0,0]⟩) p↔Own d p):=fun p hp=>by
  constructor
  ·rintro ⟨j,kk,hj,a,b⟩
   rw [hpp _ _ hj] at b; rw [hkk hj] at a
   by_cases hh:j=i
   ·subst hh; rw [hold] at b; exact absurd b.symm hp
   ·rw [if_neg hh] at a; exact ⟨j,kk,hj,a,b⟩
  ·rintro ⟨j,kk,hj,a,b⟩
   have hh:j≠i:=fun hh=>by subst hh; rw [hold] at b; exact hp b.symm
   exact ⟨j,kk,hj,by rw [hkk hj,if_neg hh]; exact a,by rw [hpp _ _ hj]; exact b⟩
 have h8:(inoSet d i ⟨k,1,[0,0]⟩).Inodes.length=8:=List.length_set.trans T.di
 refine ⟨fun j hj=>hkk hj,hpp,fun j=>cnt_congr fun p hp=> ?_,hold,hO⟩
 have hp0:p≠0:=by obtain ⟨a,b⟩:=hp; omega
 simp only [cntAt]
 rw [ownB_same T.di h8 hp0 (hO p hp0)]; rfl
theorem walk_into (h:Gd 0 [] m) {p:ByteArray} (hs:(splitDir p).2.2=true) (h0:walkPath m.Disk p=0) (hw:walkPath m.Disk (splitDir p).1≠0) (hk:kindO m.Disk (walkPath m.Disk (splitDir p).1)=2) :
  I8 (walkPath m.Disk (splitDir p).1)/\nameOk (splitDir p).2.1=true/\(walkPath m.Disk (splitDir p).1=1\/cnt m.Disk (walkPath m.Disk (splitDir p).1)≠0) /\
  (∀ l t,ptrO m.Disk (walkPath m.Disk (splitDir p).1) l≠0->(slO m.Disk (ptrO m.Disk (walkPath m.Disk (splitDir p).1) l) t).Name≠(splitDir p).2.1)/\∀ r,RK m.Disk r->r (walkPath m.Disk (splitDir p).1)<4:=by
 have T:=h.T'
 obtain ⟨l,x,e1,e2,e3,hx,hl,hl3⟩:=splitDir_spec2 hs
 have ed:walkPath m.Disk (splitDir p).1=walkFrom m.Disk 1 l:=by simp only [walkPath,e2,cond_true]
 have ep:walkPath m.Disk p=bif within (find m.Disk (walkFrom m.Disk 1 l) x).2.2 1 m.Disk.Inodes.length then (find m.Disk (walkFrom m.Disk 1 l) x).2.2 else 0:=by
  simp only [walkPath,e1,cond_true]; exact walkFrom_snoc x l 1
 rw [ed] at hw hk ⊢
 rw [e3]
 have hr1:kindO m.Disk 1≠0:=by rw [h.g.rt]; decide
 obtain ⟨q1,q2,q3,q4⟩:=(walk_spec T h.g l 1 hl ⟨by decide,by decide⟩ (.inl rfl) hr1).resolve_left hw
 refine ⟨q1,hx,q2,?_,fun r hr=> ?_⟩
 ·rcases find_in T (w:=walkFrom m.Disk 1 l) hx with ⟨f1,f2⟩ | F
  ·exact f2 q1 hk fun k hk0=>(h.g.pk _ k q1 hk0).2 hk
  ·have h8:=F.i8
   rw [ep,T.di,show within (find m.Disk (walkFrom m.Disk 1 l) x).2.2 1 ((8:Nat):Int)=true from within_iff.2 ⟨h8.1,h8.2⟩,cond_true] at h0
   obtain ⟨a,b⟩:=h8; omega
 ·have:=(q4 r hr hk).1
  rw [hr.1] at this; omega
theorem MInv.make (h:MInv m) (p:ByteArray) (kind:Int):MInv (makeNode m p kind).1:=by
 have T:=h.g.T'
 simp only [makeNode]
 cases hc:((!memOk m)||(!(splitDir p).2.2))||((!(kind==1))&&(!(kind==2))) with
 | true=>exact h
 | false =>
 cases hc1: !(walkPath m.Disk p==0) with
 | true=>exact h
 | false =>
 cases hc2:walkPath m.Disk (splitDir p).1==0 with
 | true=>exact h
 | false =>
 cases hc3: !((inoAt m.Disk (walkPath m.Disk (splitDir p).1)).Kind==2) with
 | true=>exact h
 | false =>
 cases hc4:waits m (walkPath m.Disk (splitDir p).1) (splitDir p).2.1 with
 | true=>exact h
 | false =>
 cases hc5:((takeIno m).2==0)||(!room (takeIno m).1) with
 | true=>exact h
 | false =>
 simp only [cond_false]
 cases hc6:(putName (layIno (takeIno m) kind) (walkPath m.Disk (splitDir p).1) (splitDir p).2.1 (takeIno m).2).2==0 with
 | true=>exact h
 | false =>
 simp only [cond_false]
 simp only [Bool.or_eq_false_iff,Bool.not_eq_false',beq_eq_false_iff_ne,beq_iff_eq,Bool.and_eq_false_iff] at hc hc1 hc2 hc3 hc5
 have hk:kind=1\/kind=2:=hc.2
 obtain ⟨w1,w2,w3,w4,w5⟩:=walk_into h.g hc.1.2 hc1 hc2 hc3
 obtain ⟨g1,i8,b0,b1,t1,t2,t3,t4⟩:=h.g.takeI hc5.1
 have hroom:=room_iff.1 hc5.2
 rw [t1,t2] at hroom
 have hk0:kindO m.Disk (takeIno m).2=0:=Decidable.byContradiction fun z=>by
  have:=h.g.g.imk _ i8 z
  rw [b0] at this; cases this
 have hk0':kindO (takeIno m).1.Disk (takeIno m).2=0:=by simp only [kindO,inoAt,t3]; exact hk0
 have hgl:=g1.layIno i8 hk hk0' b1 fun x hx h5 hh=>by
  rw [t1] at hx
  have:=(h.g.fr x hx h5).2.1
  rw [hh,b0] at this; cases this
 have hgl2:=hgl.dirty (y:=markD (unitOfIno (takeIno m).2) (takeIno m).1.Dirty) ((markD_len _ _).trans g1.R.dy)
 have hne:walkPath m.Disk (splitDir p).1≠(takeIno m).2:=fun z=>by
  have h2:kindO m.Disk (walkPath m.Disk (splitDir p).1)=2:=hc3
  rw [z,hk0] at h2; exact absurd h2 (by decide)
 have T1:=g1.T'
 obtain ⟨l1,l2,l3,l4,l5⟩:=lay_same T1 i8 hk hk0'
 have ek:∀ i,kindO (takeIno m).1.Disk i=kindO m.Disk i:=fun i=>by simp only [kindO,inoAt,t3]
 have ep:∀ i k,ptrO (takeIno m).1.Disk i k=ptrO m.Disk i k:=fun i k=>by simp only [ptrO,inoAt,t3]
 have es:∀ q u,slO (takeIno m).1.Disk q u=slO m.Disk q u:=fun q u=>by simp only [slO,blkAt,t4]
 have ec:∀ i,cnt (takeIno m).1.Disk i=cnt m.Disk i:=cnt_same T.di T1.di (fun i _=>ek i) (fun i k _=>ep i k) t4
 have hi0:(takeIno m).2≠0:=by obtain ⟨a,b⟩:=i8; omega
 have c0:∀ p s,B16 p->Own m.Disk p->(slO m.Disk p s).Ino≠(takeIno m).2:=fun p s hp ho he=>by
  have:=(h.g.g.nm p s hp ho (by rw [he]; exact hi0)).1
  rw [he] at this; exact this hk0
 have hI:Into (layIno (takeIno m) kind) (walkPath m.Disk (splitDir p).1) (splitDir p).2.1 (takeIno m).2:=by
  refine ⟨w1,?_,w2,i8,?_,?_,fun _=>⟨?_,?_,?_⟩⟩
  ·show kindO (inoSet (takeIno m).1.Disk (takeIno m).2 (inodeNew kind)) _=2
   rw [l1 _ w1,if_neg hne,ek]; exact hc3
  ·rcases w3 with z | z
   ·exact .inl z
   ·refine .inr ?_
    show cnt (inoSet (takeIno m).1.Disk (takeIno m).2 (inodeNew kind)) _≠0
    rw [l3,ec]; exact z
  ·intro l t
   show ptrO (inoSet (takeIno m).1.Disk (takeIno m).2 (inodeNew kind)) _ l≠0->(slO (takeIno m).1.Disk (ptrO (inoSet (takeIno m).1.Disk (takeIno m).2 (inodeNew kind)) _ l) t).Name≠_
   rw [l2 _ _ w1,ep,es]; exact w4 l t
  ·intro k
   show ptrO (inoSet (takeIno m).1.Disk (takeIno m).2 (inodeNew kind)) _ k=0
   rw [l2 _ _ i8]; exact l4 k
  ·show cnt (inoSet (takeIno m).1.Disk (takeIno m).2 (inodeNew kind)) _=0
   rw [l3,ec]; exact (T.cnt0 hi0).2 c0
  ·intro r hr
   refine w5 r ⟨hr.1,fun a k s ha hb hz hd he=> ?_⟩
   have hai:a≠(takeIno m).2:=fun z=>by rw [z,hk0] at hb; exact absurd hb (by decide)
   have:=hr.2 a k s ha
   have e1:kindO (layIno (takeIno m) kind).Disk a=2:=by
    show kindO (inoSet (takeIno m).1.Disk (takeIno m).2 (inodeNew kind)) _=2
    rw [l1 _ ha,if_neg hai,ek]; exact hb
   have e2:ptrO (layIno (takeIno m) kind).Disk a k=ptrO m.Disk a k:=by
    show ptrO (inoSet (takeIno m).1.Disk (takeIno m).2 (inodeNew kind)) _ k=_
    rw [l2 _ _ ha,ep]
   have e3:∀ q u,slO (layIno (takeIno m) kind).Disk q u=slO m.Disk q u:=fun q u=>es q u
   rw [e2,e3] at this
   refine this e1 hz hd ?_
   show kindO (inoSet (takeIno m).1.Disk (takeIno m).2 (inodeNew kind)) _=2
   rw [l1 _ (T.inoI (T.ptrB ha hz) hd),if_neg (c0 _ s (T.ptrB ha hz) ⟨a,k,ha,hb,rfl⟩),ek]; exact he
 have hln:(layIno (takeIno m) kind).Deps.length=m.Deps.length:=by show (takeIno m).1.Deps.length=_; rw [t1]
 have hnn:(layIno (takeIno m) kind).Next=m.Next:=t2
 have P:=(putName_spec (m:=layIno (takeIno m) kind) hgl2 (by rw [hln]; omega) (by rw [hnn]; omega) hI).resolve_left (by simpa using hc6)
 have p1:=P.len
 have p2:=P.nx
 rw [hln] at p1; rw [hnn] at p2
 exact MInv.of P.g (by omega) (by omega)
theorem MInv.text (h:MInv m) (p:ByteArray) (x:Int) (s:ByteArray):MInv (writeText m p x s).1:=by
 have T:=h.g.T'
 have hn1:=h.g.R.n1
 simp only [writeText]
 cases hc:(((!memOk m)||(!(splitPath p).2))||(!within x 0 1))||(decide (16<(s.size:Int))) with
 | true=>exact h
 | false =>
 cases hc1:walkPath m.Disk p==0 with
 | true=>exact h
 | false =>
 cases hc2: !((inoAt m.Disk (walkPath m.Disk p)).Kind==1) with
 | true=>exact h
 | false =>
 simp only [cond_false]
 simp only [Bool.or_eq_false_iff,Bool.not_eq_false',beq_eq_false_iff_ne,beq_iff_eq,decide_eq_false_iff_not,within_iff] at hc hc1 hc2
 have w8:I8 (walkPath m.Disk p):=((walkPath_range T.di p).resolve_left hc1)
 have hk:kindO m.Disk (walkPath m.Disk p)=1:=hc2
 have hsz:s.size<=16:=by have:=hc.2; omega
 generalize walkPath m.Disk p=w at *
 have hx:=hc.1.2
 cases hb:(inoAt m.Disk w).Ptrs.getD x.toNat 0==0 with
 | false =>
  simp only [cond_false]
  have hb0:ptrO m.Disk w x.toNat≠0:=by simpa [ptrO] using hb
  exact ⟨(h.g.text w8 hk rfl hb0 hsz).dirty ((markD_len _ _).trans h.g.R.dy),h.len,h.pot⟩
 | true =>
  simp only [cond_true]
  cases hc3:((takeBlock m).2==0)||(!room m) with
  | true=>exact h
  | false =>
  simp only [cond_false]
  simp only [Bool.or_eq_false_iff,Bool.not_eq_false',beq_eq_false_iff_ne] at hc3
  have hroom:=room_iff.1 hc3.2
  obtain ⟨g1,F,hbit⟩:=h.g.take hc3.1
  obtain ⟨t1,t2,t3,t4⟩:=takeBlock_same m
  generalize takeBlock m=t at *
  have hb0:ptrO m.Disk w x.toNat=0:=beq_iff_eq.1 hb
  have ek:kindO t.1.Disk w=1:=by simp only [kindO,inoAt,t3]; exact hk
  have ep:ptrO t.1.Disk w x.toNat=0:=by simp only [ptrO,inoAt,t3]; exact hb0
  have hmp:mayPut t.1=true:=mayPut_iff.2 ⟨by rw [t1]; omega,by rw [t2]; omega,by rw [t2]; omega⟩
  have hgr:=g1.grow hmp w8 (by rw [ek]; decide) (x:=x.toNat) (by omega) ep F.b hbit F.p F.f F.n (b:=⟨false,[],s⟩) (by simp only [blockOk,cond_false]; simp [hsz]) (by rw [ek]; simp) (fun s=>rfl)
  have hx0:((x.toNat:Nat):Int)=x:=Int.toNat_of_nonneg hx.1
  have hst:layText (growText t w x) t.2 s=⟨(growM t.1 w x.toNat t.2 ⟨false,[],s⟩).Disk,markD (unitOfBlock t.2) (markD (unitOfIno w) t.1.Dirty),(growM t.1 w x.toNat t.2 ⟨false,[],s⟩).Deps,t.1.Next+1⟩:=by
   have:=putDep_may (m:=⟨inoSet t.1.Disk w (ptrSet (inoAt t.1.Disk w) x.toNat t.2),markD (unitOfIno w) t.1.Dirty,t.1.Deps,t.1.Next⟩) hmp ⟨0,1,w,x,t.2,0,eS,false,false,0,[]⟩
   simp only [growText,this,layText,growM,hx0]; rfl
  rw [hst]
  have hgg:=hgr.dirty (y:=markD (unitOfBlock t.2) (markD (unitOfIno w) t.1.Dirty)) ((markD_len _ _).trans ((markD_len _ _).trans g1.R.dy))
  refine MInv.of hgg ?_ ?_
  ·show (t.1.Deps++[_]).length<=36
   rw [List.length_append,List.length_singleton,t1]; omega
  ·show t.1.Next+1<=_; rw [t2]; omega
theorem names_none (T:DiskT d) (g:DG d) {j:Int} (hj:I8 j) (h:namesOf d j=[]):∀ k t,kindO d j=2->ptrO d j k≠0->(slO d (ptrO d j k) t).Ino=0:=by
 intro k t hk h0
 have hB:=T.ptrB hj h0
 have hd:=(g.pk j k hj h0).2 hk
 simp only [namesOf,T.di,show within j 1 ((8:Nat):Int)=true from within_iff.2 ⟨hj.1,hj.2⟩,show (inoAt d j).Kind=2 from hk,Bool.true_and,beq_self_eq_true,cond_true,List.flatMap_eq_nil_iff] at h
 have h1:=h (ptrO d j k) ((mem_getD h0).2 ⟨k,rfl⟩)
 have hb:block? d (ptrO d j k)=(blkAt d (ptrO d j k),true):=by
  simp only [block?,T.db,show within (ptrO d j k) 1 ((16:Nat):Int)=true from within_iff.2 ⟨hB.1,hB.2⟩,cond_true]
 rw [hb] at h1
 simp only [namesIn,hd,cond_true,List.map_eq_nil_iff,List.filter_eq_nil_iff] at h1
 rcases T.slot' hB t with z | z
 ·rw [z]; rfl
 ·have h4:=blockS_len (T.blkR hB.1 hB.2) z.2.1
  have:=h1 (slO d (ptrO d j k) t) (getD_mem dSlot (by omega))
  have h5:(slO d (ptrO d j k) t).Name=eS:=by simpa using this
  exact absurd h5 (nameOk_ne z.2.2.1)
theorem MInv.remove (h:MInv m) (p:ByteArray):MInv (removeNode m p).1:=by
 have T:=h.g.T'
 have hn1:=h.g.R.n1
 simp only [removeNode]
 cases hc:(!memOk m)||(!(splitDir p).2.2) with
 | true=>exact h
 | false =>
 simp only [Bool.or_eq_false_iff,Bool.not_eq_false'] at hc
 simp only [cond_false,removeFound]
 obtain ⟨l,x,e1,e2,e3,hx,hl,hl3⟩:=splitDir_spec2 hc.2
 rw [e3]
 cases hc1:(find m.Disk (walkPath m.Disk (splitDir p).1) x).2.2==0 with
 | true=>exact h
 | false =>
 have F:=(find_in T (w:=walkPath m.Disk (splitDir p).1) hx).resolve_left (fun z=>by rw [z.1] at hc1; cases hc1)
 generalize find m.Disk (walkPath m.Disk (splitDir p).1) x=f at *
 simp only [cond_false]
 cases hc2:((decide (0<((namesOf m.Disk f.2.2).length:Int)))||(((inoAt m.Disk f.2.2).Kind==2)&&held m f.2.2))||(!room m) with
 | true=>exact h
 | false =>
 simp only [cond_false]
 simp only [Bool.or_eq_false_iff,Bool.not_eq_false',decide_eq_false_iff_not] at hc2
 have hroom:=room_iff.1 hc2.2
 have hnn:namesOf m.Disk f.2.2=[]:=List.length_eq_zero_iff.1 (by have:=hc2.1.1; omega)
 have hI:(slO m.Disk f.1 f.2.1.toNat).Ino=f.2.2:=by rw [F.sl]
 have hi8:=F.i8
 have hj0:(slO m.Disk f.1 f.2.1.toNat).Ino≠0:=by rw [hI]; obtain ⟨a,b⟩:=hi8; omega
 have hg:=h.g.nameGone (mayPut_iff.2 ⟨by omega,hn1,by omega⟩) F.b F.own F.s.1 F.s.2 hj0 (by rw [hI]; exact names_none T h.g.g hi8 hnn) (b:=0) (.inl rfl)
 have hln:=nameGone_len m f.1 f.2.1 0
 exact MInv.of hg (by omega) (by omega)
theorem MInv.move (h:MInv m) (p q:ByteArray):MInv (moveFile m p q).1:=by
 have T:=h.g.T'
 have hn1:=h.g.R.n1
 simp only [moveFile]
 cases hc:((!memOk m)||(!(splitDir p).2.2))||(!(splitDir q).2.2) with
 | true=>exact h
 | false =>
 simp only [Bool.or_eq_false_iff,Bool.not_eq_false'] at hc
 simp only [cond_false,moveFound]
 obtain ⟨l,x,e1,e2,e3,hx,hl,hl3⟩:=splitDir_spec2 hc.1.2
 rw [e3]
 cases hc1:((find m.Disk (walkPath m.Disk (splitDir p).1) x).2.2==0)||(walkPath m.Disk (splitDir q).1==0) with
 | true=>exact h
 | false =>
 simp only [Bool.or_eq_false_iff] at hc1
 have F:=(find_in T (w:=walkPath m.Disk (splitDir p).1) hx).resolve_left (fun z=>by rw [z.1] at hc1; exact absurd hc1.1 (by decide))
 generalize find m.Disk (walkPath m.Disk (splitDir p).1) x=f at *
 simp only [cond_false]
 cases hc2:(!((inoAt m.Disk f.2.2).Kind==1))||(!((inoAt m.Disk (walkPath m.Disk (splitDir q).1)).Kind==2)) with
 | true=>exact h
 | false =>
 simp only [cond_false]
 cases hc3: !(walkPath m.Disk q==0) with
 | true=>exact h
 | false =>
 simp only [cond_false]
 cases hc4:waits m (walkPath m.Disk (splitDir q).1) (splitDir q).2.1||deep m (splitDir q).1 with
 | true=>exact h
 | false =>
 simp only [cond_false]
 cases hc5: !room m with
 | true=>exact h
 | false =>
 simp only [cond_false]
 cases hc6:decide (200<=(inoAt m.Disk f.2.2).Links) with
 | true=>exact h
 | false =>
 simp only [cond_false,movePut]
 cases hc7:(putName (moreLink m f.2.2) (walkPath m.Disk (splitDir q).1) (splitDir q).2.1 f.2.2).2==0 with
 | true=>exact h
 | false =>
 simp only [cond_false]
 simp only [Bool.or_eq_false_iff,Bool.not_eq_false',beq_eq_false_iff_ne,beq_iff_eq,decide_eq_false_iff_not] at hc1 hc2 hc3 hc4 hc5 hc6 hc7
 have hroom:=room_iff.1 hc5
 obtain ⟨w1,w2,w3,w4,w5⟩:=walk_into h.g hc.2 hc3 hc1.2 hc2.2
 have hi8:=F.i8
 have hk1:kindO m.Disk f.2.2=1:=hc2.1
 have hgm:=h.g.more hi8 hk1 (by show (inoAt m.Disk f.2.2).Links<200; omega)
 have hgm2:=hgm.dirty (y:=markD (unitOfIno f.2.2) m.Dirty) ((markD_len _ _).trans h.g.R.dy)
 have ek:∀ i,I8 i->kindO (moreLink m f.2.2).Disk i=kindO m.Disk i:=fun i hi=>by
  show kindO (inoSet m.Disk f.2.2 _) i=_
  rw [kindO_inoSet T.di hi8 hi]; split
  ·next z=>rw [z]; rfl
  ·rfl
 have ep:∀ i k,I8 i->ptrO (moreLink m f.2.2).Disk i k=ptrO m.Disk i k:=fun i k hi=>by
  show ptrO (inoSet m.Disk f.2.2 _) i k=_
  rw [ptrO_inoSet T.di hi8 hi]; split
  ·next z=>rw [z]; rfl
  ·rfl
 have es:∀ q u,slO (moreLink m f.2.2).Disk q u=slO m.Disk q u:=fun q u=>rfl
 have eo:=own_same ek ep
 have ec:=cnt_same T.di (hgm2.T'.di) ek ep rfl
 have hI2:Into (moreLink m f.2.2) (walkPath m.Disk (splitDir q).1) (splitDir q).2.1 f.2.2:=by
  refine ⟨w1,by rw [ek _ w1]; exact hc2.2,w2,hi8,?_,?_,fun z=>by rw [ek _ hi8,hk1] at z; exact absurd z (by decide)⟩
  ·rcases w3 with z | z
   ·exact .inl z
   ·exact .inr (by show cnt (moreLink m f.2.2).Disk _≠0; rw [show cnt (moreLink m f.2.2).Disk _=cnt m.Disk _ from ec _]; exact z)
  ·intro l t; rw [ep _ _ w1,es]; exact w4 l t
 have P:=(putName_spec (m:=moreLink m f.2.2) hgm2 (by show m.Deps.length<=38; omega) (by show m.Next<=99998; omega) hI2).resolve_left hc7
 generalize putName (moreLink m f.2.2) (walkPath m.Disk (splitDir q).1) (splitDir q).2.1 f.2.2=t at *
 have hI:(slO m.Disk f.1 f.2.1.toNat).Ino=f.2.2:=by rw [F.sl]
 have hj0':f.2.2≠0:=by obtain ⟨a,b⟩:=hi8; omega
 have ho:=F.own
 have hB:=F.b
 have hf0:f.1≠0:=by obtain ⟨a,b⟩:=hB; omega
 have ho1:Own (moreLink m f.2.2).Disk f.1:=(eo _).2 ho
 have hs1:slO t.1.Disk f.1 f.2.1.toNat=slO m.Disk f.1 f.2.1.toNat:=P.same _ _ hB ho1 (by rw [es,hI]; exact hj0')
 have hI':(slO t.1.Disk f.1 f.2.1.toNat).Ino=f.2.2:=by rw [hs1,hI]
 obtain ⟨dp,ds,hd1,hd2,hd3⟩:=P.dep
 have hl1:=P.len
 have hl2:=P.nx
 have hl1':t.1.Deps.length<=m.Deps.length+2:=hl1
 have hl2':t.1.Next<=m.Next+2:=hl2
 have hg:=P.g.nameGone (mayPut_iff.2 ⟨by omega,P.g.R.n1,by omega⟩) hB (P.own _ hf0 ho1) F.s.1 F.s.2 (by rw [hI']; exact hj0') (by
  rw [hI']; intro k u z; rw [P.kind _ hi8,ek _ hi8,hk1] at z; exact absurd z (by decide)) (b:=t.2) (.inr ⟨_,hd1,rfl,.inl rfl,by rw [hI']; rfl,fun z=>by
   rcases depAt_spec P.g.R f.1 f.2.1 with ⟨z1,_⟩ | ⟨y,hy,z1,z2,z3,z4,_⟩
   ·rw [z1] at z
    have:=(depNums_all (P.g.R.num _ hd1)).1.1
    have this':1<=t.2:=this
    omega
   ·have:=ids_eq P.g.R.ids hd1 hy (z.trans z4)
    rw [← this] at z2 z3
    have z2':dp=f.1:=z2
    have z3':ds=f.2.1:=z3
    have:=hd3 (by rw [z2']; exact ho1)
    rw [z2',z3',es,F.sl] at this
    exact hj0' (congrArg Slot.Ino this)⟩)
 have hln:=nameGone_len t.1 f.1 f.2.1 t.2
 exact MInv.of hg (by omega) (by omega)
theorem remA_drop (h:MemR m) {z:Dep} (hz:z∈m.Deps) (h4:z.Kind=4):remA (dropDep m z.Id).Deps+1=remA m.Deps:=by
 have:=count_drop h.ids hz (fun d=>d.Kind==4)
 rw [h4] at this; exact this
theorem len_drop (h:MemR m) {z:Dep} (hz:z∈m.Deps):(dropDep m z.Id).Deps.length+1=m.Deps.length:=by
 have:=count_drop h.ids hz (fun _=>true)
 simp only [cond_true,List.countP_true] at this; exact this
theorem remA_lose (i:Int) (m:Mem):remA (lose i m).Deps=remA m.Deps:=by
 simp only [lose]
 cases decide (40<=(m.Deps.length:Int))|| !within m.Next 1 99999 with
 | true=>rfl
 | false =>
  simp only [cond_false]
  cases decide (0<(fewer (inoAt m.Disk i)).Links)||((fewer (inoAt m.Disk i)).Kind==0) with
  | true=>rfl
  | false =>
   have hf:remA (m.Deps.filter (stays i))=remA m.Deps:=by
    simp only [remA,List.countP_filter]
    apply List.countP_congr
    intro d _
    by_cases h4:d.Kind=4
    ·simp [h4,stays]
    ·simp [h4]
   simp only [cond_false,putDep]
   cases mayPut ⟨inoSet m.Disk i (inodeNew 0),markD (unitOfIno i) m.Dirty,m.Deps.filter (stays i),m.Next⟩ with
   | false=>exact hf
   | true =>
    simp only [cond_true,remA,List.countP_append,List.countP_singleton]
    exact hf
theorem lose_mem {i:Int} {y:Dep} (hy:y∈m.Deps) (h1:y.Kind≠1) (h6:y.Kind≠6):y∈(lose i m).Deps:=by
 have hst:stays i y=true:=by simp only [stays]; rw [beq_eq_false_iff_ne.2 h1,beq_eq_false_iff_ne.2 h6]; rfl
 simp only [lose]
 cases decide (40<=(m.Deps.length:Int))|| !within m.Next 1 99999 with
 | true=>exact hy
 | false =>
  simp only [cond_false]
  cases decide (0<(fewer (inoAt m.Disk i)).Links)||((fewer (inoAt m.Disk i)).Kind==0) with
  | true=>exact hy
  | false =>
   have hf:y∈m.Deps.filter (stays i):=List.mem_filter.2 ⟨hy,hst⟩
   simp only [cond_false,putDep]
   cases mayPut ⟨inoSet m.Disk i (inodeNew 0),markD (unitOfIno i) m.Dirty,m.Deps.filter (stays i),m.Next⟩ with
   | false=>exact hf
   | true=>exact List.mem_append_left _ hf
theorem lose_mem' {i:Int} {y:Dep} (hy:y∈(lose i m).Deps):y∈m.Deps\/(y.Kind=5/\y.Id=m.Next):=by
 revert hy
 simp only [lose]
 cases decide (40<=(m.Deps.length:Int))|| !within m.Next 1 99999 with
 | true=>exact .inl
 | false =>
  simp only [cond_false]
  cases decide (0<(fewer (inoAt m.Disk i)).Links)||((fewer (inoAt m.Disk i)).Kind==0) with
  | true=>exact .inl
  | false =>
   simp only [cond_false,putDep]
   cases mayPut ⟨inoSet m.Disk i (inodeNew 0),markD (unitOfIno i) m.Dirty,m.Deps.filter (stays i),m.Next⟩ with
   | false=>exact fun hy=> .inl (List.mem_filter.1 hy).1
   | true =>
    intro hy
    rcases List.mem_append.1 hy with hy | hy
    ·exact .inl (List.mem_filter.1 hy).1
    ·rw [List.mem_singleton] at hy; subst hy; exact .inr ⟨rfl,rfl⟩
theorem lose_next (i:Int) (m:Mem):m.Next<=(lose i m).Next:=by
 simp only [lose]
 cases decide (40<=(m.Deps.length:Int))|| !within m.Next 1 99999 with
 | true=>exact Int.le_refl _
 | false =>
  simp only [cond_false]
  cases decide (0<(fewer (inoAt m.Disk i)).Links)||((fewer (inoAt m.Disk i)).Kind==0) with
  | true=>exact Int.le_refl _
  | false =>
   simp only [cond_false,putDep]
   cases mayPut ⟨inoSet m.Disk i (inodeNew 0),markD (unitOfIno i) m.Dirty,m.Deps.filter (stays i),m.Next⟩ with
   | false=>exact Int.le_refl _
   | true=>show m.Next<=m.Next+1; omega
structure Mid (X:List Int) (m:Mem):Prop where
 g:Gd 0 X m
 len:m.Deps.length<=36
 pot:m.Next+remA m.Deps<=99100
theorem Mid.dropLose (h:Mid X m) {z:Dep} (hz:z∈m.Deps) (h4:z.Kind=4):Mid X (Soft.lose z.Ino (dropDep m z.Id)):=by
 have h1:=remA_drop h.g.R hz h4
 have h2:=len_drop h.g.R hz
 have h3:=h.len
 have h5:=h.pot
 have hn:(dropDep m z.Id).Next=m.Next:=rfl
 have hg:=(h.g.dropRem hz h4).lose (depNums_ino (h.g.R.num z hz)) (mayPut_iff.2 ⟨by omega,h.g.R.n1,by show m.Next<=99999; omega⟩)
 have hl:=lose_len z.Ino (dropDep m z.Id)
 refine ⟨hg,by omega,?_⟩
 rw [remA_lose]; have:=hl.2; omega
theorem freeBits_get:∀ (bl:List Int) (bb:List Bool) (p:Int),(∀ q∈bl,1<=q)->1<=p->p∉bl->(freeBits bl bb).getD (p-1).toNat false=bb.getD (p-1).toNat false
 | [],bb,p,_,_,_=>rfl
 | q::bl,bb,p,h,hp,hn=>by
  show (freeBits bl (bb.set (q-1).toNat false)).getD (p-1).toNat false=_
  rw [freeBits_get bl _ p (fun x hx=>h x (List.mem_cons_of_mem _ hx)) hp fun hx=>hn (List.mem_cons_of_mem _ hx),getD_set,if_neg]
  rintro ⟨h1,_⟩
  have:=h q List.mem_cons_self
  exact hn (by rw [show p=q by omega]; exact List.mem_cons_self)
theorem freeBits_len:∀ (bl:List Int) (bb:List Bool),(freeBits bl bb).length=bb.length
 | [],bb=>rfl
 | q::bl,bb=>by
  show (freeBits bl (bb.set (q-1).toNat false)).length=_
  rw [freeBits_len bl,List.length_set]
theorem Gd.freed2 (h:Gd 0 [] m) {x:Dep} (hx:x∈m.Deps) (h5:x.Kind=5):Gd 0 x.Blocks (Soft.freed2 x (dropDep m x.Id)):=by
 have T:=h.T'
 obtain ⟨a1,a2,a3,a4⟩:=h.fr x hx h5
 have hi:=depNums_ino (h.R.num x hx)
 have hbs:=fun p hp=>within_iff.1 (List.all_eq_true.1 (h.R.bs x hx) p hp)
 have hs:=List.filter_sublist (p:=fun y:Dep=> !(y.Id==x.Id)) (l:=m.Deps)
 have hr:=rems_filter (l:=m.Deps) (P:=fun y=> !(y.Id==x.Id)) fun d hd h4=>by
  have:d.Id≠x.Id:=fun hh=>by have:=ids_eq h.R.ids hd hx hh; rw [this,h5] at h4; exact absurd h4 (by decide)
  simpa using this
 have hbit:∀ p,B16 p->p∉x.Blocks->(freeBits x.Blocks m.Disk.Bits.Blocks).getD (p-1).toNat false=bitB m.Disk p:=fun p hp hn=>freeBits_get _ _ _ (fun q hq=>(hbs q hq).1) hp.1 hn
 have hino:∀ i,I8 i->i≠x.Ino->(m.Disk.Bits.Inos.set (x.Ino-1).toNat false).getD (i-1).toNat false=bitI m.Disk i:=fun i hi' hne=>by
  rw [getD_set,if_neg]
  ·rfl
  ·rintro ⟨q,_⟩
   obtain ⟨b1,b2⟩:=hi'
   omega
 have hR:=(h.R.drop x.Id).setBits (bb:=freeBits x.Blocks m.Disk.Bits.Blocks) (bi:=m.Disk.Bits.Inos.set (x.Ino-1).toNat false) ((freeBits_len _ _).trans T.bb) (List.length_set.trans T.bi)
 have hg:DG ⟨⟨freeBits x.Blocks m.Disk.Bits.Blocks,m.Disk.Bits.Inos.set (x.Ino-1).toNat false⟩,m.Disk.Inodes,m.Disk.Blocks⟩:=DG.same T h.g T.di rfl (fun _ _=>rfl) (fun _ _ _=>rfl) (fun _ _ _=>rfl)
  (fun i k hi' h0=>(hbit _ (T.ptrB hi' h0) (fun q=>(a4 _ q).2 i k hi' rfl)).trans (h.g.bm i k hi' h0))
  (fun i hi' h0=>(hino i hi' (fun q=>h0 (q▸a1))).trans (h.g.imk i hi' h0))
 have hR2:MemR (Soft.freed2 x (dropDep m x.Id)):=hR.dirty ((markD_len _ _).trans h.R.dy)
 have hfrp:∀ y∈m.Deps,y.Kind=5->y.Id≠x.Id->y.Ino≠x.Ino/\∀ p∈y.Blocks,p∉x.Blocks:=fun y hy hy5 hne=>by
  have:=h.frp
  rw [List.pairwise_iff_getElem] at this
  obtain ⟨i1,hi1,rfl⟩:=List.mem_iff_getElem.1 hx
  obtain ⟨i2,hi2,rfl⟩:=List.mem_iff_getElem.1 hy
  rcases Nat.lt_trichotomy i1 i2 with hlt | heq | hgt
  ·have:=this i1 i2 hi1 hi2 hlt h5 hy5
   exact ⟨fun q=>this.1 q.symm,fun p hp hq=>this.2 p hq hp⟩
  ·subst heq; exact absurd rfl hne
  ·exact this i2 i1 hi2 hi1 hgt hy5 h5
 refine ⟨hR2,fun d hd=>h.sz d (hs.subset hd),hg,?_,h.frp.sublist hs,?_,?_,?_,fun d hd=>h.nd d (hs.subset hd),?_,h.us.sublist hs,?_⟩
 ·intro y hy hy5
  obtain ⟨hy',hne⟩:=drop_mem.1 hy
  obtain ⟨b1,b2,b3,b4⟩:=h.fr y hy' hy5
  obtain ⟨c1,c2⟩:=hfrp y hy' hy5 hne
  refine ⟨b1,(hino _ (depNums_ino (h.R.num y hy')) c1).trans b2,b3,fun p hp=>⟨(hbit p ?_ (c2 p hp)).trans (b4 p hp).1,(b4 p hp).2⟩⟩
  have:=within_iff.1 (List.all_eq_true.1 (h.R.bs y hy') p hp)
  exact ⟨this.1,this.2⟩
 ·intro j; show _->_->_->_=_+((rems (m.Deps.filter fun y=> !(y.Id==x.Id)) j:Nat):Int)+_; rw [hr]; exact h.lk j
 ·intro j; show _->_->rems (m.Deps.filter fun y=> !(y.Id==x.Id)) j=0/\_; rw [hr]; exact h.lk0 j
 ·show rems (m.Deps.filter fun y=> !(y.Id==x.Id)) 1=0/\_; rw [hr]; exact h.rt
 ·intro y hy h4
  obtain ⟨hy',hne⟩:=drop_mem.1 hy
  obtain ⟨a,b⟩:=h.rd y hy' h4
  refine ⟨a,?_⟩
  rcases b with b | b | ⟨f,hf,hf5,hfb⟩
  ·exact .inl b
  ·cases b
  ·by_cases hh:f.Id=x.Id
   ·have:=ids_eq h.R.ids hf hx hh
    subst this; exact .inr (.inl hfb)
   ·exact .inr (.inr ⟨f,drop_mem.2 ⟨hf,hh⟩,hf5,hfb⟩)
 ·intro y hy h4 h0
  obtain ⟨hy',hne⟩:=drop_mem.1 hy
  obtain ⟨z,hz,a,b,c⟩:=h.af y hy' h4 h0
  refine ⟨z,drop_mem.2 ⟨hz,fun hh=> ?_⟩,a,b,c⟩
  have:=ids_eq h.R.ids hz hx hh
  rw [this,h5] at b; omega
theorem freed1_fold:∀ (l:List Dep) (o:Mem),Mid X o->(l.Pairwise fun a b=>¬ a.Id=b.Id)->(∀ z∈l,z.Kind=4->z∈o.Deps)->(∀ y∈o.Deps,y.Kind=4->y.Block∈X->y∈l) ->
  Mid X (l.foldl (freed1 X) o)/\(∀ y∈(l.foldl (freed1 X) o).Deps,y.Kind=4->y.Block∉X)/\(∀ y∈o.Deps,(y.Kind=5\/y.Kind=3)->(∀ z∈l,z.Kind=4->z.Id≠y.Id)->y∈(l.foldl (freed1 X) o).Deps)/\o.Next<=(l.foldl (freed1 X) o).Next /\
  (∀ y∈(l.foldl (freed1 X) o).Deps,y∈o.Deps\/(y.Kind=5/\o.Next<=y.Id))/\(l.foldl (freed1 X) o).Disk.Blocks=o.Disk.Blocks
 | [],o,h,_,_,h2=>⟨h,fun y hy h4 hX=>(List.not_mem_nil (h2 y hy h4 hX)).elim,fun y hy _ _=>hy,Int.le_refl _,fun y hy=> .inl hy,rfl⟩
 | z::l,o,h,hp,h1,h2=>by
  rw [List.pairwise_cons] at hp
  rw [List.foldl_cons]
  have e:freed1 X o z=if z.Kind=4/\z.Block∈X then lose z.Ino (dropDep o z.Id) else o:=by
   simp only [freed1]
   by_cases hk:z.Kind=4
   ·by_cases hX:z.Block∈X
    ·rw [if_pos ⟨hk,hX⟩,hk,has_iff.2 hX]; rfl
    ·rw [if_neg (fun q=>hX q.2)]
     have:has X z.Block=false:=by rw [← Bool.not_eq_true,has_iff]; exact hX
     rw [this,Bool.and_false]; rfl
   ·rw [if_neg (fun q=>hk q.1),beq_eq_false_iff_ne.2 hk]; rfl
  rw [e]
  by_cases hc:z.Kind=4/\z.Block∈X
  ·rw [if_pos hc]
   have hz:=h1 z List.mem_cons_self hc.1
   have hM:=h.dropLose hz hc.1
   have hblk:(lose z.Ino (dropDep o z.Id)).Disk.Blocks=o.Disk.Blocks:=by
    simp only [lose]
    cases decide (40<=((dropDep o z.Id).Deps.length:Int))|| !within (dropDep o z.Id).Next 1 99999 with
    | true=>rfl
    | false =>
     simp only [cond_false]
     cases decide (0<(fewer (inoAt (dropDep o z.Id).Disk z.Ino)).Links)||((fewer (inoAt (dropDep o z.Id).Disk z.Ino)).Kind==0) with
     | true=>rfl
     | false=>simp only [cond_false,putDep_disk]; rfl
   have:=freed1_fold l _ hM hp.2 (fun y hy h4=>lose_mem (drop_mem.2 ⟨h1 y (List.mem_cons_of_mem _ hy) h4,fun q=>hp.1 y hy q.symm⟩) (by omega) (by omega)) (fun y hy h4 hX=>by
    rcases lose_mem' hy with q | q
    ·obtain ⟨q1,q2⟩:=drop_mem.1 q
     exact (List.mem_cons.1 (h2 y q1 h4 hX)).resolve_left fun q=>q2 (by rw [q])
    ·omega)
   obtain ⟨r1,r2,r3,r4,r5,r6⟩:=this
   refine ⟨r1,r2,fun y hy hk hne=>r3 y (lose_mem (drop_mem.2 ⟨hy,fun q=>hne z List.mem_cons_self hc.1 q.symm⟩) (by omega) (by omega)) hk fun w hw=>hne w (List.mem_cons_of_mem _ hw),Int.le_trans (lose_next z.Ino (dropDep o z.Id)) r4,fun y hy=> ?_,r6.trans hblk⟩
   rcases r5 y hy with q | q
   ·rcases lose_mem' q with q | q
    ·exact .inl (drop_mem.1 q).1
    ·exact .inr ⟨q.1,by rw [q.2]; exact Int.le_refl _⟩
   ·exact .inr ⟨q.1,Int.le_trans (lose_next z.Ino (dropDep o z.Id)) q.2⟩
  ·rw [if_neg hc]
   have:=freed1_fold l o h hp.2 (fun y hy h4=>h1 y (List.mem_cons_of_mem _ hy) h4) (fun y hy h4 hX=>(List.mem_cons.1 (h2 y hy h4 hX)).resolve_left fun q=>hc (by rw [← q]; exact ⟨h4,hX⟩))
   obtain ⟨r1,r2,r3,r4,r5,r6⟩:=this
   exact ⟨r1,r2,fun y hy hk hne=>r3 y hy hk fun w hw=>hne w (List.mem_cons_of_mem _ hw),r4,r5,r6⟩
theorem Mid.freed (h:Mid [] m) {x:Dep} (hx:x∈m.Deps) (h5:x.Kind=5):Mid [] (Soft.freed x m)/\(∀ y∈m.Deps,y.Id≠x.Id->(y.Kind=5\/y.Kind=3)->y∈(Soft.freed x m).Deps)/\m.Next<=(Soft.freed x m).Next /\
  (∀ y∈(Soft.freed x m).Deps,y∈m.Deps\/(y.Kind=5/\m.Next<=y.Id))/\(Soft.freed x m).Disk.Blocks=m.Disk.Blocks:=by
 have hg:=h.g.freed2 hx h5
 have hl:=len_drop h.g.R hx
 have hra:remA (dropDep m x.Id).Deps=remA m.Deps:=by
  have:=count_drop h.g.R.ids hx (fun d=>d.Kind==4)
  rw [h5] at this; exact this
 have hlen:=h.len
 have hpot:=h.pot
 have hM:Mid x.Blocks (freed2 x (dropDep m x.Id)):=⟨hg,by show (dropDep m x.Id).Deps.length<=36; omega,by show m.Next+remA (dropDep m x.Id).Deps<=99100; rw [hra]; exact hpot⟩
 obtain ⟨r1,r2,r3,r4,r5,r6⟩:=freed1_fold (dropDep m x.Id).Deps _ hM (h.g.R.ids.sublist List.filter_sublist) (fun z hz _=>hz) (fun y hy _ _=>hy)
 refine ⟨⟨?_,r1.len,r1.pot⟩,fun y hy hne hk=>r3 y (drop_mem.2 ⟨hy,hne⟩) hk fun z hz h4 hh=> ?_,r4,fun y hy=> ?_,r6⟩
 ·have g:=r1.g
  refine ⟨g.R,g.sz,g.g,g.fr,g.frp,g.lk,g.lk0,g.rt,g.nd,?_,g.us,g.af⟩
  intro y hy h4
  obtain ⟨a,b⟩:=g.rd y hy h4
  refine ⟨a,?_⟩
  rcases b with b | b | b
  ·exact .inl b
  ·exact absurd b (r2 y hy h4)
  ·exact .inr (.inr b)
 ·have:=ids_eq h.g.R.ids (drop_mem.1 hz).1 hy hh
  subst this; omega
 ·rcases r5 y hy with q | q
  ·exact .inl (drop_mem.1 q).1
  ·exact .inr q
def RelU (u:Int) (x:Dep):Prop:=(x.Kind=5/\unitOfIno x.Ino=u)\/(x.Kind=3/\unitOfBlock x.Block=u)\/(x.Kind=4/\x.After=0/\unitOfBlock x.Block=u)
theorem unitOfIno_range {i:Int} (h:I8 i):1<=unitOfIno i/\unitOfIno i<=4:=by
 obtain ⟨a,b⟩:=h
 simp only [unitOfIno,within_iff.2 ⟨a,b⟩,cond_true]; omega
theorem unitOfBlock_range (p:Int):unitOfBlock p= -1\/5<=unitOfBlock p:=by
 simp only [unitOfBlock]
 cases h:within p 1 16 with
 | true=>rw [within_iff] at h; right; simp only [cond_true]; omega
 | false=>exact .inl rfl
theorem remA_shown (id b:Int) (m:Mem):remA (shown id b m).Deps<=remA m.Deps:=by
 have h1:remA (shown id b m).Deps=remA (dropDep m id).Deps:=by
  simp only [shown,remA,List.countP_map]
  apply List.countP_congr
  intro y _
  simp [(aftOf_same id b y).2.1]
 rw [h1]
 exact List.Sublist.countP_le List.filter_sublist
structure DI (u:Int) (l:List Dep) (o:Mem):Prop where
 M:Mid [] o
 k:∀ x∈l,∀ y∈o.Deps,y.Id=x.Id->y.Kind=x.Kind
 n:∀ x∈l,x.Id<o.Next
 p:∀ x∈l,RelU u x->x∈o.Deps
theorem doneStep_cases (u:Int) (o:Mem) (d:Dep):(d.Kind=6/\unitOfIno d.Ino=u/\doneStep u o d=dropDep o d.Id)\/(d.Kind=5/\unitOfIno d.Ino=u/\doneStep u o d=freed d o)\/(d.Kind=3/\unitOfBlock d.Block=u/\doneStep u o d=shown d.Id 0 o) \/
  (d.Kind=4/\d.After=0/\unitOfBlock d.Block=u/\doneStep u o d=lose d.Ino (dropDep o d.Id))\/(¬ (d.Kind=6/\unitOfIno d.Ino=u)/\¬ RelU u d/\doneStep u o d=o):=by
 simp only [doneStep]
 cases h6:(d.Kind==6)&&(unitOfIno d.Ino==u) with
 | true=>simp only [Bool.and_eq_true,beq_iff_eq] at h6; exact .inl ⟨h6.1,h6.2,rfl⟩
 | false =>
 cases h5:(d.Kind==5)&&(unitOfIno d.Ino==u) with
 | true=>simp only [Bool.and_eq_true,beq_iff_eq] at h5; exact .inr (.inl ⟨h5.1,h5.2,rfl⟩)
 | false =>
 cases h3:(d.Kind==3)&&(unitOfBlock d.Block==u) with
 | true=>simp only [Bool.and_eq_true,beq_iff_eq] at h3; exact .inr (.inr (.inl ⟨h3.1,h3.2,rfl⟩))
 | false =>
 cases h4:((d.Kind==4)&&(d.After==0))&&(unitOfBlock d.Block==u) with
 | true=>simp only [Bool.and_eq_true,beq_iff_eq] at h4; exact .inr (.inr (.inr (.inl ⟨h4.1.1,h4.1.2,h4.2,rfl⟩)))
 | false =>
  refine .inr (.inr (.inr (.inr ⟨?_,?_,rfl⟩)))
  ·rintro ⟨a,b⟩; rw [a,b] at h6; simp at h6
  ·rintro (⟨a,b⟩ | ⟨a,b⟩ | ⟨a,b,c⟩)
   ·rw [a,b] at h5; simp at h5
   ·rw [a,b] at h3; simp at h3
   ·rw [a,b,c] at h4; simp at h4
theorem DI.step {u:Int} {x:Dep} {l:List Dep} {o:Mem} (h:DI u (x::l) o) (hp:(x::l).Pairwise fun a b=>¬ a.Id=b.Id) (hI:I8 x.Ino):DI u l (doneStep u o x):=by
 rw [List.pairwise_cons] at hp
 have hk:=fun y hy=>h.k y (List.mem_cons_of_mem x hy)
 have hn:=fun y hy=>h.n y (List.mem_cons_of_mem x hy)
 have hpp:=fun y hy=>h.p y (List.mem_cons_of_mem x hy)
 have hlen:=h.M.len
 have hpot:=h.M.pot
 rcases doneStep_cases u o x with ⟨a,b,c⟩ | ⟨a,b,c⟩ | ⟨a,b,c⟩ | ⟨a,b,b',c⟩ | ⟨a,b,c⟩
 ·rw [c]
  have hg:=h.M.g.sub (P:=fun y=> !(y.Id==x.Id)) fun y hy h1 h6=>by
   have:=h.k x List.mem_cons_self y hy
   have hne:y.Id≠x.Id:=fun q=>h6 ((this q).trans a)
   simpa using hne
  have hs:=List.filter_sublist (p:=fun y:Dep=> !(y.Id==x.Id)) (l:=o.Deps)
  refine ⟨⟨hg,Nat.le_trans hs.length_le hlen,?_⟩,fun y hy z hz=>hk y hy z (hs.subset hz),hn,fun y hy hr=>drop_mem.2 ⟨hpp y hy hr,fun q=>hp.1 y hy q.symm⟩⟩
  have:remA (o.Deps.filter fun y=> !(y.Id==x.Id))<=remA o.Deps:=List.Sublist.countP_le hs
  show o.Next+remA (o.Deps.filter fun y=> !(y.Id==x.Id))<=99100
  omega
 ·rw [c]
  have hx:=h.p x List.mem_cons_self (.inl ⟨a,b⟩)
  obtain ⟨r1,r2,r3,r4,_⟩:=h.M.freed hx a
  have hu:=unitOfIno_range hI
  rw [b] at hu
  refine ⟨r1,fun y hy z hz hzi=> ?_,fun y hy=>Int.lt_of_lt_of_le (hn y hy) r3,fun y hy hr=>r2 y (hpp y hy hr) (fun q=>hp.1 y hy q.symm) ?_⟩
  ·rcases r4 z hz with q | q
   ·exact hk y hy z q hzi
   ·have:=hn y hy; omega
  ·rcases hr with q | q | q
   ·exact .inl q.1
   ·have:=unitOfBlock_range y.Block; omega
   ·have:=unitOfBlock_range y.Block; omega
 ·rw [c]
  have hx:=h.p x List.mem_cons_self (.inr (.inl ⟨a,b⟩))
  have hg:=h.M.g.shown hx (.inr a) (b:=0) (.inl rfl)
  refine ⟨⟨hg,Nat.le_trans (shown_len _ _ _) hlen,?_⟩,fun y hy z hz hzi=> ?_,hn,fun y hy hr=> ?_⟩
  ·have:=remA_shown x.Id 0 o
   show o.Next+remA (shown x.Id 0 o).Deps<=99100
   omega
  ·obtain ⟨w,hw,_,rfl⟩:=shown_mem.1 hz
   rw [(aftOf_same _ _ w).1] at hzi; rw [(aftOf_same _ _ w).2.1]
   exact hk y hy w hw hzi
  ·refine shown_mem.2 ⟨y,hpp y hy hr,fun q=>hp.1 y hy q.symm,?_⟩
   have hid:=(depNums_all (h.M.g.R.num x hx)).1.1
   simp only [aftOf]
   rcases hr with q | q | q
   ·rw [q.1]; rfl
   ·rw [q.1]; rfl
   ·rw [q.1,q.2.1,beq_eq_false_iff_ne.2 (show (0:Int)≠x.Id by omega)]; rfl
 ·rw [c]
  have hx:=h.p x List.mem_cons_self (.inr (.inr ⟨a,b,b'⟩))
  refine ⟨h.M.dropLose hx a,fun y hy z hz hzi=> ?_,fun y hy=>Int.lt_of_lt_of_le (hn y hy) (lose_next x.Ino (dropDep o x.Id)),fun y hy hr=> ?_⟩
  ·rcases lose_mem' hz with q | q
   ·exact hk y hy z (drop_mem.1 q).1 hzi
   ·have h1:=hn y hy
    have h2:z.Id=o.Next:=q.2
    omega
  ·refine lose_mem (drop_mem.2 ⟨hpp y hy hr,fun q=>hp.1 y hy q.symm⟩) ?_ ?_
   ·rcases hr with q | q | q<;>omega
   ·rcases hr with q | q | q<;>omega
 ·rw [c]; exact ⟨h.M,hk,hn,hpp⟩
theorem DI.fold {u:Int}:∀ (l:List Dep) (o:Mem),DI u l o->(l.Pairwise fun a b=>¬ a.Id=b.Id)->(∀ x∈l,I8 x.Ino)->Mid [] (l.foldl (doneStep u) o)
 | [],o,h,_,_=>h.M
 | x::l,o,h,hp,hI=>by
  rw [List.foldl_cons]
  exact DI.fold l _ (h.step hp (hI x List.mem_cons_self)) (List.pairwise_cons.1 hp).2 fun y hy=>hI y (List.mem_cons_of_mem _ hy)
theorem flag_turn (u:Int):Turn fun d=>flag2 u (flag1 u d):=by
 refine ⟨fun d=> ?_,fun d=> ?_⟩
 ·obtain ⟨a1,a2,a3,a4,a5,a6,a7,a8,a9⟩:=flag1_same u d
  exact ⟨a1,a3,a4,a5,a6,a7,a8,a9⟩
 ·exact .inl (flag1_same u d).2.1
theorem ready_turn (l:List Dep):Turn (ready1 l):=by
 refine ⟨ready1_same l,fun d=> ?_⟩
 simp only [ready1]
 cases h:((d.Kind==1)&&d.Bits)&&d.Other with
 | true=>simp only [Bool.and_eq_true,beq_iff_eq] at h; exact .inr (.inl ⟨h.1.1,rfl⟩)
 | false =>
  cases h2:(((d.Kind==2)&&d.Bits)&&d.Other)&&(!pending l d.Block) with
  | true=>simp only [Bool.and_eq_true,beq_iff_eq] at h2; exact .inr (.inr ⟨h2.1.1.1,rfl⟩)
  | false=>exact .inl rfl
theorem flag_id (u:Int) {d:Dep} (h1:d.Kind≠1) (h2:d.Kind≠2):flag2 u (flag1 u d)=d:=by
 have e1:flag1 u d=d:=by simp only [flag1]; rw [beq_eq_false_iff_ne.2 h1,beq_eq_false_iff_ne.2 h2,Bool.or_false,Bool.and_false]; rfl
 rw [e1]
 simp only [flag2]; rw [beq_eq_false_iff_ne.2 h1,beq_eq_false_iff_ne.2 h2]; rfl
theorem remA_turn {f:Dep->Dep} (ht:Turn f) (l:List Dep):remA (l.map f)=remA l:=by
 simp only [remA,List.countP_map]
 apply List.countP_congr
 intro d _
 have:=(ht.eq4 d).1
 simp [this]
theorem MInv.done (h:MInv m) (u:Int):MInv (Soft.done m u):=by
 simp only [Soft.done]
 cases hc:memOk m&&within u 0 20 with
 | false=>exact h
 | true =>
  simp only [cond_true]
  have g0:=h.g.dirty (y:=m.Dirty.set u.toNat false) (List.length_set.trans h.g.R.dy)
  have g1:Gd 0 [] (flag u (clean u m)):=g0.turn (flag_turn u)
  have hD:DI u m.Deps (flag u (clean u m)):=by
   refine ⟨⟨g1,by show (m.Deps.map _).length<=36; rw [List.length_map]; exact h.len,by show m.Next+remA (m.Deps.map _)<=99100; rw [remA_turn (flag_turn u)]; exact h.pot⟩,fun x hx y hy he=> ?_,fun x hx=> ?_,fun x hx hr=> ?_⟩
   ·obtain ⟨z,hz,rfl⟩:=List.mem_map.1 hy
    rw [(flag1_same u z).1] at he
    rw [(flag1_same u z).2.1,ids_eq h.g.R.ids hz hx he]
   ·have:=(depNums_all (h.g.R.num x hx)).1.2
    show x.Id<m.Next; omega
   ·refine List.mem_map.2 ⟨x,hx,flag_id u ?_ ?_⟩<;>rcases hr with q | q | q<;>omega
  have hM:=DI.fold m.Deps _ hD h.g.R.ids fun x hx=>depNums_ino (h.g.R.num x hx)
  generalize m.Deps.foldl (doneStep u) (flag u (clean u m))=o at hM
  have g2:=(hM.g.turn (ready_turn o.Deps)).dirty (y:=o.Deps.foldl (readyD o.Deps) o.Dirty) ((readyD_len _ _ _).trans hM.g.R.dy)
  refine ⟨g2,?_,?_⟩
  ·show (List.map _ _).length<=36; rw [List.length_map]; exact hM.len
  ·show o.Next+(remA (o.Deps.map (ready1 o.Deps)):Int)<=99100; rw [remA_turn (ready_turn _)]; exact hM.pot
end Go.Soft
namespace Go.Soft
open Go
variable {R:Type} {m:Mem}
theorem MInv.sz (h:MInv m):SzMem m:=h.g.T.szm
theorem MoveFile_eq {n:Nat} (hn:FUEL<=n) (h:MInv m) (p q:ByteArray) (hp:p.size<=LEN) (hq:q.size<=LEN) (k:Mem->Int->Option R) :
  s_MoveFile n m p q k=k (moveFile m p q).1 (moveFile m p q).2:=by
 have hm:=h.sz
 have T:=h.g.T'
 have hn1:=h.g.R.n1
 have hdi:=T.di
 obtain ⟨q1,q2,q3⟩:=splitDir_spec p
 obtain ⟨r1,r2,r3⟩:=splitDir_spec q
 simp only [s_MoveFile,moveFile]
 rw [l08Copy_eq hn m hm,l12Split_eq hn p hp,l12Split_eq hn q hq,MemOk_eq hn m hm]
 cases hc:((!memOk m)||(!(splitDir p).2.2))||(!(splitDir q).2.2) with
 | true=>rfl
 | false =>
 simp only [Bool.or_eq_false_iff,Bool.not_eq_false'] at hc
 simp only [cond_false,moveFound]
 obtain ⟨l,x,e1,e2,e3,hx,hl,hl3⟩:=splitDir_spec2 hc.1.2
 rw [WalkPath_eq hn _ hm.d _ q1,l11Find_eq hn _ hm.d,WalkPath_eq hn _ hm.d _ r1,e3]
 cases hc1:((find m.Disk (walkPath m.Disk (splitDir p).1) x).2.2==0)||(walkPath m.Disk (splitDir q).1==0) with
 | true=>rfl
 | false =>
 simp only [Bool.or_eq_false_iff] at hc1
 have F:=(find_in T (w:=walkPath m.Disk (splitDir p).1) hx).resolve_left (fun z=>by rw [z.1] at hc1; exact absurd hc1.1 (by decide))
 generalize find m.Disk (walkPath m.Disk (splitDir p).1) x=f at *
 have hi8:=F.i8
 obtain ⟨i1,i2⟩:=hi8
 have hwr:=(walkPath_range T.di (splitDir q).1).resolve_left (by simpa using hc1.2)
 simp only [cond_false]
 rw [w64_pred (x:=f.2.2) (by omega) (by omega),w64_pred (x:=walkPath m.Disk (splitDir q).1) (by omega) (by omega),inR_pred i1 (by omega),inR_pred hwr.1 (by omega)]
 simp only [Bool.or_true,chk_t]
 show (bif (!((inoAt m.Disk f.2.2).Kind==1))||(!((inoAt m.Disk (walkPath m.Disk (splitDir q).1)).Kind==2)) then _ else _)=_
 cases hc2:(!((inoAt m.Disk f.2.2).Kind==1))||(!((inoAt m.Disk (walkPath m.Disk (splitDir q).1)).Kind==2)) with
 | true=>rfl
 | false =>
 simp only [cond_false]
 rw [WalkPath_eq hn _ hm.d _ hq]
 cases hc3: !(walkPath m.Disk q==0) with
 | true=>rfl
 | false =>
 simp only [cond_false]
 rw [l12Waits_eq hn m hm.dp hm.d.di _ hwr.1 (by omega) (by rw [T.ptrs hwr.1 hwr.2]; decide),l12Deep_eq hn m hm _ r1]
 have ez:∀ a b:Bool,(a||(bif !a then b else false))=(a||b):=fun a b=>by cases a<;>rfl
 simp only [ez]
 cases hc4:waits m (walkPath m.Disk (splitDir q).1) (splitDir q).2.1||deep m (splitDir q).1 with
 | true=>rfl
 | false =>
 simp only [cond_false,s_l12Room]
 have er:(decide ((m.Deps.length:Int)<=32)&&decide (m.Next<=99000))=room m:=rfl
 rw [er]
 cases hc5: !room m with
 | true=>rfl
 | false =>
 simp only [cond_false]
 show (bif decide (200<=(inoAt m.Disk f.2.2).Links) then _ else _)=_
 cases hc6:decide (200<=(inoAt m.Disk f.2.2).Links) with
 | true=>rfl
 | false =>
 simp only [cond_false,movePut]
 simp only [Bool.or_eq_false_iff,Bool.not_eq_false',beq_eq_false_iff_ne,beq_iff_eq,decide_eq_false_iff_not] at hc1 hc2 hc3 hc4 hc5 hc6
 have hroom:=room_iff.1 hc5
 obtain ⟨w1,w2,w3,w4,w5⟩:=walk_into h.g hc.2 hc3 hc1.2 hc2.2
 have hk1:kindO m.Disk f.2.2=1:=hc2.1
 have hgm:=h.g.more F.i8 hk1 (by show (inoAt m.Disk f.2.2).Links<200; omega)
 have hgm2:Gd f.2.2 [] (moreLink m f.2.2):=hgm.dirty (y:=markD (unitOfIno f.2.2) m.Dirty) ((markD_len _ _).trans h.g.R.dy)
 have hlk:0<=(inoAt m.Disk f.2.2).Links:=by
  have:=T.inoR i1 i2
  simp only [inodeOk,Bool.and_eq_true,within_iff] at this; exact this.2.1.1
 rw [l08Copy_eq hn m hm,w64_id (n:=(m.Disk.Inodes.getD (f.2.2-1).toNat dInode).Links+1) (by show _<=(inoAt m.Disk f.2.2).Links+1; omega) (by show (inoAt m.Disk f.2.2).Links+1<=_; omega),UnitOfIno_eq,l08Mark_eq,mark_mk]
 have ek:∀ i,I8 i->kindO (moreLink m f.2.2).Disk i=kindO m.Disk i:=fun i hi=>by
  show kindO (inoSet m.Disk f.2.2 _) i=_
  rw [kindO_inoSet T.di F.i8 hi]; split
  ·next z=>rw [z]; rfl
  ·rfl
 have ep:∀ i k,I8 i->ptrO (moreLink m f.2.2).Disk i k=ptrO m.Disk i k:=fun i k hi=>by
  show ptrO (inoSet m.Disk f.2.2 _) i k=_
  rw [ptrO_inoSet T.di F.i8 hi]; split
  ·next z=>rw [z]; rfl
  ·rfl
 have es:∀ q u,slO (moreLink m f.2.2).Disk q u=slO m.Disk q u:=fun q u=>rfl
 have eo:=own_same ek ep
 have ec:=cnt_same T.di (hgm2.T'.di) ek ep rfl
 have hI2:Into (moreLink m f.2.2) (walkPath m.Disk (splitDir q).1) (splitDir q).2.1 f.2.2:=by
  refine ⟨w1,by rw [ek _ w1]; exact hc2.2,w2,F.i8,?_,?_,fun z=>by rw [ek _ F.i8,hk1] at z; exact absurd z (by decide)⟩
  ·rcases w3 with z | z
   ·exact .inl z
   ·exact .inr (by show cnt (moreLink m f.2.2).Disk _≠0; rw [show cnt (moreLink m f.2.2).Disk _=cnt m.Disk _ from ec _]; exact z)
  ·intro l t; rw [ep _ _ w1,es]; exact w4 l t
 have hput:∀ k:Int->Mem->Option R,s_l12Put n (walkPath m.Disk (splitDir q).1) (splitDir q).2.1 f.2.2 (moreLink m f.2.2) k=_:=fun k=>l12Put_eq hn _ hgm2.T w1.1 w1.2 (by show kindO _ _≠0; rw [ek _ w1]; show (inoAt m.Disk _).Kind≠0; rw [hc2.2]; decide) w2 i1 i2 k
 rw [chk_of (inR_pred i1 (by omega))]
 refine (hput _).trans ?_
 cases hc7:(putName (moreLink m f.2.2) (walkPath m.Disk (splitDir q).1) (splitDir q).2.1 f.2.2).2==0 with
 | true=>rfl
 | false =>
 simp only [cond_false]
 have P:=(putName_spec (m:=moreLink m f.2.2) hgm2 (by show m.Deps.length<=38; omega) (by show m.Next<=99998; omega) hI2).resolve_left (by simpa using hc7)
 generalize putName (moreLink m f.2.2) (walkPath m.Disk (splitDir q).1) (splitDir q).2.1 f.2.2=t at *
 have hB:=F.b
 have hf0:f.1≠0:=by obtain ⟨a,b⟩:=hB; omega
 have ho1:Own (moreLink m f.2.2).Disk f.1:=(eo _).2 F.own
 have hI:(slO m.Disk f.1 f.2.1.toNat).Ino=f.2.2:=by rw [F.sl]
 have hs1:slO t.1.Disk f.1 f.2.1.toNat=slO m.Disk f.1 f.2.1.toNat:=P.same _ _ hB ho1 (by rw [es,hI]; omega)
 obtain ⟨dp,ds,hd1,hd2,hd3⟩:=P.dep
 have hid:=(depNums_all (P.g.R.num _ hd1)).1
 have hid1:1<=t.2:=hid.1
 have hid2:t.2<=t.1.Next-1:=hid.2
 exact l12Gone_eq hn P.g.T hB.1 hB.2 (P.g.g.ownDir (P.own _ hf0 ho1) hf0) F.s.1 F.s.2 (by
  rw [within_iff]
  show 1<=(slO t.1.Disk f.1 f.2.1.toNat).Ino/\(slO t.1.Disk f.1 f.2.1.toNat).Ino<=8
  rw [hs1,hI]; exact ⟨i1,i2⟩) (by omega) hid2 _
theorem ptr_new:∀ i k,I8 i->ptrO diskNew i k=0:=by
 intro i k hi
 have hz:∀ kk,([0,0]:List Int).getD kk 0=0:=fun kk=>by
  match kk with
  | 0=>rfl
  | 1=>rfl
  | n+2=>rfl
 have:(inoAt diskNew i).Ptrs=[0,0]:=by
  obtain ⟨a,b⟩:=hi
  have:i=1\/i=2\/i=3\/i=4\/i=5\/i=6\/i=7\/i=8:=by omega
  rcases this with rfl | rfl | rfl | rfl | rfl | rfl | rfl | rfl<;>rfl
 simp only [ptrO,this,hz]
theorem kind_new {i:Int} (hi:I8 i):kindO diskNew i=if i=1 then 2 else 0:=by
 obtain ⟨a,b⟩:=hi
 have:i=1\/i=2\/i=3\/i=4\/i=5\/i=6\/i=7\/i=8:=by omega
 rcases this with rfl | rfl | rfl | rfl | rfl | rfl | rfl | rfl<;>rfl
theorem memOk_new:memOk (memNew diskNew)=true:=by decide +kernel
theorem MInv.new:MInv (memNew diskNew):=by
 have hR:=memOk_iff.1 memOk_new
 have hO:∀ p,p≠0->¬ Own diskNew p:=fun p hp ⟨i,k,hi,_,h⟩=>by rw [ptr_new i k hi] at h; exact hp h.symm
 have hg:DG diskNew:=by
  refine ⟨fun i k j l hi _ _ h=>absurd (ptr_new i k hi) h,fun i k hi h=>absurd (ptr_new i k hi) h,fun i hi h=> ?_,fun i k hi h=>absurd (ptr_new i k hi) h,fun p s hp ho=>absurd ho (hO p (by obtain ⟨a,b⟩:=hp; omega)),
   fun i k s hi _ _ _ h=>absurd (ptr_new i k hi) h,fun j hj h=> ?_,rfl,fun i k l s t hi _ h=>absurd (ptr_new i k hi) h,⟨fun _=>0,rfl,fun i k s hi _ h=>absurd (ptr_new i k hi) h⟩⟩
  ·rw [kind_new hi] at h
   by_cases h1:i=1
   ·subst h1; rfl
   ·rw [if_neg h1] at h; exact absurd rfl h
  ·rw [kind_new hj] at h
   by_cases h1:j=1
   ·subst h1; rfl
   ·rw [if_neg h1] at h; exact absurd h (by decide)
 have no:∀ {d:Dep} {C:Prop},d∈(memNew diskNew).Deps->C:=fun hd=>(List.not_mem_nil hd).elim
 refine ⟨⟨hR,fun d hd=>no hd,hg,fun d hd=>no hd,List.Pairwise.nil,fun j hj h1 h=> ?_,fun j hj h=>⟨rfl,by obtain ⟨a,b⟩:=hj; omega⟩,⟨rfl,by decide⟩,fun d hd=>no hd,fun d hd=>no hd,List.Pairwise.nil,fun d hd=>no hd⟩,by decide,by decide⟩
 have h':kindO diskNew j≠0:=h
 rw [kind_new hj,if_neg h1] at h'; exact absurd rfl h'
theorem loop_build {β:Type} {L:Nat->Int->List β->Option R} {N:Nat} {f:Nat->β} {B:Nat} {q:List β->Option R} (hN:N<=1000)
  (hs:∀ m i acc,B<m->i<N->acc.length=i->L (m+1) (i:Int) acc=L m (w64 ((i:Int)+1)) (acc++[f i])) (hq:∀ m acc,L (m+1) (N:Int) acc=q acc) :
  ∀ (r j n:Nat) (acc:List β),j+r=N->acc.length=j->r+B<n->L n (j:Int) acc=q (acc++(List.range' j r).map f)
 | 0,j,0,acc,h1,h2,h3=>by omega
 | 0,j,n+1,acc,h1,h2,h3=>by
  have:j=N:=by omega
  subst this; rw [hq]; simp
 | r+1,j,0,acc,h1,h2,h3=>by omega
 | r+1,j,n+1,acc,h1,h2,h3=>by
  rw [hs n j acc (by omega) (by omega) h2,w64_suc (by omega),loop_build hN hs hq r (j+1) n _ (by omega) (by rw [List.length_append,h2,List.length_singleton]) (by omega),List.range'_succ,List.map_cons,List.append_assoc]
  rfl
def deviceOf (d:Disk):Device×Bool:=bif diskOk d then (⟨(List.range' 0 21).map fun u:Nat=>unitOf d u⟩,true) else (⟨[]⟩,false)
theorem DeviceOf_eq {n:Nat} (hn:FUEL<=n) (d:Disk) (hd:SzDisk d) (k:Device->Bool->Option R):s_DeviceOf n d k=k (deviceOf d).1 (deviceOf d).2:=by
 simp only [s_DeviceOf,deviceOf]
 rw [DiskOk_eq hn d hd]
 cases h:diskOk d with
 | false=>rfl
 | true =>
  have T:=(diskOk_iff.1 h).t
  simp only [Bool.not_true,cond_false,cond_true]
  have:=loop_build (R:=R) (L:=s_DeviceOf_l5 n d.Bits.Blocks d.Bits.Inos d.Inodes d.Blocks (fun v=>k ⟨v⟩ true)) (N:=21) (f:=fun u:Nat=>unitOf d u) (B:=0) (q:=fun v=>k ⟨v⟩ true) (by omega)
   (fun m i acc _ hi ha=>by
    simp only [s_DeviceOf_l5]
    rw [show decide ((i:Int)<21)=true by simp; omega,bif_t]
    refine (l07Unit_eq hn d T i (by omega) (by omega) _).trans ?_
    rw [chk_of (lenOk_app (i:=i) (by omega) (by omega) (by simp))])
   (fun m acc=>by simp [s_DeviceOf_l5]) 21 0 n [] rfl rfl (fuel_lt hn (by omega))
  exact this
def fsNew:Fs:=⟨memNew diskNew,(deviceOf diskNew).1⟩
theorem diskOk_new:diskOk diskNew=true:=by decide +kernel
theorem diskNew_sz:SzDisk diskNew:=(diskOk_iff.1 diskOk_new).t.sz
theorem FsNew_eq {n:Nat} (hn:FUEL<=n) (k:Fs->Option R):s_FsNew n k=k fsNew:=by
 simp only [s_FsNew]
 rw [DiskNew_eq hn,DeviceOf_eq hn _ diskNew_sz,DiskNew_eq hn,MemNew_eq hn _ diskNew_sz]; rfl
structure FInv (f:Fs):Prop where
 m:MInv f.Mem
 d:deviceOk f.Device=true
theorem FInv.new:FInv fsNew:=⟨MInv.new,by decide +kernel⟩
theorem devLen {d:Device} (h:deviceOk d=true):d.Units.length=21:=by
 simp only [deviceOk,Bool.and_eq_true,beq_iff_eq] at h; exact h.2
theorem devLen' {d:Device} (h:deviceOk d=true):d.Units.length<=LEN:=by rw [devLen h]; decide
theorem writeUnit_ok {d:Device} (h:deviceOk d=true) (u:Int) (s:ByteArray):deviceOk (writeUnit d u s).1=true:=by
 simp only [writeUnit]
 cases hc:((!deviceOk d)||(!within u 0 20))||(decide (60<(s.size:Int))) with
 | true=>exact h
 | false =>
  simp only [Bool.or_eq_false_iff,decide_eq_false_iff_not] at hc
  simp only [deviceOk,Bool.and_eq_true,beq_iff_eq,cond_false,List.length_set,List.all_eq_true] at h ⊢
  refine ⟨fun x hx=> ?_,h.2⟩
  rcases mem_set hx with q | q
  ·exact h.1 x q
  ·rw [q,unitS,Bool.not_eq_true',decide_eq_false_iff_not]; exact hc.2
theorem WriteBack_eq {n:Nat} (hn:FUEL<=n) (f:Fs) (hm:SzMem f.Mem) (hd:f.Device.Units.length<=LEN) (u:Int) (k:Fs->Bool->Option R):s_WriteBack n f u k=k (writeBack f u).1 (writeBack f u).2:=by
 simp only [s_WriteBack,writeBack]
 rw [ImageUnit_eq hn _ hm,FsOk_eq hn f hm hd]
 cases hc:(!fsOk f)||(!(imageUnit f.Mem u).2) with
 | true=>simp only [cond_true]; rw [l13Copy_eq hn f hm hd]
 | false =>
  simp only [cond_false]
  rw [WriteUnit_eq hn _ hd]
  cases hw: !(writeUnit f.Device u (imageUnit f.Mem u).1).2 with
  | true=>simp only [cond_true]; rw [l13Copy_eq hn f hm hd]
  | false =>
   simp only [cond_false]
   rw [(Done_eq hn _ hm u _).1]
theorem FInv.back {f:Fs} (h:FInv f) (u:Int):FInv (writeBack f u).1:=by
 simp only [writeBack]
 cases (!fsOk f)||(!(imageUnit f.Mem u).2) with
 | true=>exact h
 | false =>
  cases !(writeUnit f.Device u (imageUnit f.Mem u).1).2 with
  | true=>exact h
  | false=>exact ⟨h.m.done u,writeUnit_ok h.d _ _⟩
def firstDirty (l:List Bool):Nat:=(l.takeWhile fun b=> !b).length
def flushN:Nat->Fs->Fs
 | 0,f=>f
 | k+1,f=>bif firstDirty f.Mem.Dirty==f.Mem.Dirty.length then f else bif !(writeBack f (firstDirty f.Mem.Dirty)).2 then f else flushN k (writeBack f (firstDirty f.Mem.Dirty)).1
def flush (f:Fs):Fs:=flushN 400 f
theorem FInv.flushN:∀ (k:Nat) {f:Fs},FInv f->FInv (Soft.flushN k f)
 | 0,f,h=>h
 | k+1,f,h=>by
  simp only [Soft.flushN]
  cases firstDirty f.Mem.Dirty==f.Mem.Dirty.length with
  | true=>exact h
  | false =>
   cases !(writeBack f (firstDirty f.Mem.Dirty)).2 with
   | true=>exact h
   | false=>exact FInv.flushN k (h.back _)
theorem flush_l6 (l:List Bool) (hl:l.length<=2097152) (q:Int->Option R):∀ (s:List Bool) (j m:Nat),s=l.drop j->j<=l.length->s.length<m->s_Flush_l6f1 l q m (j:Int)=q ((j+firstDirty s:Nat):Int)
 | [],j,0,h1,h2,h3=>by cases h3
 | [],j,m+1,h1,h2,h3=>by
  have:l.length<=j:=by have:=congrArg List.length h1; simp at this; omega
  simp only [s_Flush_l6f1,lt_nat,show decide (j<l.length)=false by simp; omega]
  rfl
 | b::s,j,0,h1,h2,h3=>by cases h3
 | b::s,j,m+1,h1,h2,h3=>by
  have hj:j<l.length:=by have:=congrArg List.length h1; simp at this; omega
  have hd:=drop_getD false hj
  rw [← h1] at hd; injection hd with hb hs
  simp only [s_Flush_l6f1,lt_nat,inR_nat,hj,decide_true,Bool.not_true,Bool.false_or,chk_t,Bool.true_and,Int.toNat_natCast,← hb]
  cases b with
  | true=>rfl
  | false =>
   simp only [Bool.not_false,cond_true]
   rw [w64_suc (by omega),flush_l6 l hl q s (j+1) m hs (by omega) (by simp at h3; omega)]
   simp only [firstDirty,List.takeWhile_cons,Bool.not_false,if_true,List.length_cons]
   congr 2; omega
theorem writeBack_sz {n:Nat} (hn:FUEL<=n) (f:Fs) (hm:SzMem f.Mem) (hd:f.Device.Units.length<=LEN) (u:Int):SzMem (writeBack f u).1.Mem/\(writeBack f u).1.Device.Units.length<=LEN:=by
 simp only [writeBack]
 cases (!fsOk f)||(!(imageUnit f.Mem u).2) with
 | true=>exact ⟨hm,hd⟩
 | false =>
  rw [cond_false]
  cases !(writeUnit f.Device u (imageUnit f.Mem u).1).2 with
  | true=>exact ⟨hm,hd⟩
  | false =>
   rw [cond_false]
   refine ⟨?_,?_⟩
   ·rcases (Done_eq (R:=Unit) hn f.Mem hm u fun _=>none).2 with h | h
    ·show SzMem (done f.Mem u); rw [h]; exact hm
    ·exact h.2.szm
   ·show (writeUnit f.Device u (imageUnit f.Mem u).1).1.Units.length<=LEN
    simp only [writeUnit]
    cases ((!deviceOk f.Device)||(!within u 0 20))||(decide (60<((imageUnit f.Mem u).1.size:Int))) with
    | true=>exact hd
    | false=>rw [cond_false,List.length_set]; exact hd
theorem flush_l3 {n:Nat} (hn:FUEL<=n) (K:Fs->Option R):∀ (r:Nat) (i m:Nat) (f:Fs),SzMem f.Mem->f.Device.Units.length<=LEN->i+r=400->r+2097160<m ->
  s_Flush_l3 n (fun v v_1 v_2 v_3 v_4 v_5 v_6 v_7=>K ⟨⟨⟨⟨v_1,v_2⟩,v_3,v_4⟩,v_5,v_6,v⟩,⟨v_7⟩⟩) (fun v_8 v_9 v_10 v_11 v_12 v_13 v_14 v_15=>K ⟨⟨⟨⟨v_9,v_10⟩,v_11,v_12⟩,v_13,v_14,v_8⟩,⟨v_15⟩⟩) m (i:Int) f.Mem.Next f.Mem.Disk.Bits.Blocks f.Mem.Disk.Bits.Inos f.Mem.Disk.Inodes f.Mem.Disk.Blocks f.Mem.Dirty f.Mem.Deps f.Device.Units=K (flushN r f)
 | 0,i,0,f,h,h',h1,h2=>by omega
 | 0,i,m+1,f,h,h',h1,h2=>by
  simp only [s_Flush_l3]
  rw [show decide ((i:Int)<400)=false by simp; omega]
  rfl
 | r+1,i,0,f,h,h',h1,h2=>by omega
 | r+1,i,m+1,f,h,h',h1,h2=>by
  have hdy:f.Mem.Dirty.length<=2097152:=h.dy
  simp only [s_Flush_l3]
  rw [show decide ((i:Int)<400)=true by simp; omega,bif_t]
  refine (flush_l6 (R:=R) f.Mem.Dirty (by omega) _ f.Mem.Dirty 0 m (by simp) (by omega) (by omega)).trans ?_
  rw [Nat.zero_add,int_beq]
  simp only [flushN]
  cases firstDirty f.Mem.Dirty==f.Mem.Dirty.length with
  | true=>rfl
  | false =>
   simp only [cond_false]
   refine (WriteBack_eq hn f h h' _ _).trans ?_
   cases !(writeBack f (firstDirty f.Mem.Dirty)).2 with
   | true=>rfl
   | false =>
    simp only [cond_false]
    rw [w64_suc (by omega)]
    have hz:=writeBack_sz hn f h h' (firstDirty f.Mem.Dirty)
    exact flush_l3 hn K r (i+1) m _ hz.1 hz.2 (by omega) (by omega)
theorem Flush_eq' {n:Nat} (hn:FUEL<=n) (f:Fs) (hm:SzMem f.Mem) (hd:f.Device.Units.length<=LEN) (k:Fs->Option R):s_Flush n f k=k (flush f):=by
 simp only [s_Flush]
 rw [l13Copy_eq hn f hm hd]
 exact flush_l3 hn k 400 0 n f hm hd rfl (fuel_lt hn (by omega))
theorem Flush_eq {n:Nat} (hn:FUEL<=n) (f:Fs) (h:FInv f) (k:Fs->Option R):s_Flush n f k=k (flush f):=Flush_eq' hn f h.m.sz (devLen' h.d) k
theorem flushN_sz {n:Nat} (hn:FUEL<=n):∀ (r:Nat) (f:Fs),SzMem f.Mem->f.Device.Units.length<=LEN->SzMem (flushN r f).Mem/\(flushN r f).Device.Units.length<=LEN
 | 0,f,h,h'=>⟨h,h'⟩
 | r+1,f,h,h'=>by
  simp only [flushN]
  cases firstDirty f.Mem.Dirty==f.Mem.Dirty.length with
  | true=>exact ⟨h,h'⟩
  | false =>
   rw [cond_false]
   cases !(writeBack f (firstDirty f.Mem.Dirty)).2 with
   | true=>exact ⟨h,h'⟩
   | false =>
    rw [cond_false]
    have hz:=writeBack_sz hn f h h' (firstDirty f.Mem.Dirty)
    exact flushN_sz hn r _ hz.1 hz.2
def insRev:List Node->Node->List Node
 | [],x=>[x]
 | y::r,x=>bif sLt x.Path y.Path then y::insRev r x else x::y::r
def sortRev (l:List Node):List Node:=l.foldl insRev []
def sortN (l:List Node):List Node:=(sortRev l).reverse
theorem insRev_len:∀ (l:List Node) (x:Node),(insRev l x).length=l.length+1
 | [],x=>rfl
 | y::r,x=>by
  simp only [insRev]
  cases sLt x.Path y.Path with
  | true=>simp only [cond_true,List.length_cons]; rw [insRev_len r x]
  | false=>rfl
theorem sort_l6 (q:List Node->Option R):∀ (r rest:List Node) (x:Node) (m:Nat),r.length<m->r.length+rest.length<=2097152->s_l14Sorted_l6 q m (r.length:Int) (r.reverse++x::rest)=q ((insRev r x).reverse++rest)
 | r,rest,x,0,h,_=>by omega
 | [],rest,x,m+1,h,_=>by
  simp only [s_l14Sorted_l6,List.length_nil]
  simp [insRev,chk_t]
 | y::r,rest,x,m+1,h,hs=>by
  simp only [List.length_cons] at h hs
  have hlen:((y::r).reverse++x::rest).length=r.length+1+(rest.length+1):=by simp; omega
  have e0:(y::r).reverse++x::rest=r.reverse++y::x::rest:=by simp
  have g1:((y::r).reverse++x::rest).getD (r.length+1) dNode=x:=getD_mid dNode (by simp)
  have g0:((y::r).reverse++x::rest).getD r.length dNode=y:=by rw [e0]; exact getD_mid dNode (by simp)
  have s1:((y::r).reverse++x::rest).set (r.length+1) y=r.reverse++y::y::rest:=by
   rw [set_mid (a:=(y::r).reverse) y (by simp)]; simp
  have s0:(r.reverse++y::y::rest).set r.length x=r.reverse++x::y::rest:=set_mid x (by simp)
  simp only [s_l14Sorted_l6,List.length_cons]
  rw [show w64 (((r.length+1:Nat):Int)-1)=((r.length:Nat):Int) by rw [w64_id (by omega) (by omega)]; omega]
  simp only [Int.toNat_natCast,g1,g0,s1,s0,inR_nat,hlen]
  rw [show decide ((0:Int)<((r.length+1:Nat):Int))=true by rw [decide_eq_true_eq]; omega,show decide (r.length<r.length+1+(rest.length+1))=true by rw [decide_eq_true_eq]; omega,show decide (r.length+1<r.length+1+(rest.length+1))=true by simp]
  simp only [Bool.or_true,chk_t,Bool.true_and]
  simp only [insRev]
  cases hc:sLt x.Path y.Path with
  | false=>simp
  | true =>
   simp only [cond_true]
   rw [chk_of (by simp)]
   refine (sort_l6 q r (y::rest) x m (by omega) (by simp only [List.length_cons]; omega)).trans ?_
   congr 1; simp
theorem sort_l3 (q:List Node->Option R):∀ (rest r:List Node) (m:Nat),r.length+rest.length+rest.length<m->r.length+rest.length<=2097152->s_l14Sorted_l3 q m (r.length:Int) (r.reverse++rest)=q (rest.foldl insRev r).reverse
 | rest,r,0,h,_=>by omega
 | [],r,m+1,h,hs=>by
  simp [s_l14Sorted_l3]
 | x::rest,r,m+1,h,hs=>by
  simp only [List.length_cons] at h hs
  simp only [s_l14Sorted_l3]
  rw [show decide ((r.length:Int)<((r.reverse++x::rest).length:Int))=true by simp; omega,bif_t]
  refine (sort_l6 _ r rest x m (by omega) (by omega)).trans ?_
  rw [w64_suc (by omega),List.foldl_cons]
  have:=sort_l3 q rest (insRev r x) m (by rw [insRev_len]; omega) (by rw [insRev_len]; omega)
  rw [insRev_len] at this
  exact this
theorem l14Sorted_eq {n:Nat} (hn:FUEL<=n) (l:List Node) (hl:l.length<=LEN) (k:List Node->Option R):s_l14Sorted n l k=k (sortN l):=by
 have hl':l.length<=2097152:=hl
 simp only [s_l14Sorted,List.nil_append]
 rw [chk_of (lenOk_of (by omega))]
 cases l with
 | nil =>
  have hn':100000000<=n:=hn
  match n,hn' with
  | n+1,_=>simp [s_l14Sorted_l3,sortN,sortRev]
 | cons a l =>
  simp only [List.length_cons] at hl'
  exact sort_l3 k l [a] n (fuel_lt hn (by simp only [List.length_cons,List.length_nil]; omega)) (by simp only [List.length_cons,List.length_nil]; omega)
theorem sortN_len (l:List Node):(sortN l).length=l.length:=by
 have:∀ (l r:List Node),(l.foldl insRev r).length=r.length+l.length:=by
  intro l
  induction l with
  | nil=>intro r; rfl
  | cons x l ih=>intro r; rw [List.foldl_cons,ih,insRev_len,List.length_cons]; omega
 simp only [sortN,List.length_reverse,sortRev,this,List.length_nil,Nat.zero_add]
theorem insRev_mem:∀ (l:List Node) (x y:Node),y∈insRev l x↔y=x\/y∈l
 | [],x,y=>by simp [insRev]
 | z::r,x,y=>by
  simp only [insRev]
  cases sLt x.Path z.Path with
  | true=>simp only [cond_true,List.mem_cons,insRev_mem r x y]; constructor<;>rintro (h | h | h)<;>simp [h]
  | false=>simp
theorem sortN_mem (l:List Node) (y:Node):y∈sortN l↔y∈l:=by
 have:∀ (l r:List Node),y∈l.foldl insRev r↔y∈r\/y∈l:=by
  intro l
  induction l with
  | nil=>intro r; simp
  | cons x l ih=>intro r; rw [List.foldl_cons,ih,insRev_mem,List.mem_cons,or_comm (a:=y=x),or_assoc]
 simp only [sortN,List.mem_reverse,sortRev,this]; simp
def below (p top:ByteArray):Bool:=(p==top)||(decide ((top.size:Int)<(p.size:Int))&&(p.extract 0 (top.size+1)==top++S [47]))
theorem l17Below_eq (p top:ByteArray) (hp:p.size<=LEN) (ht:top.size<=LEN) (k:Bool->Option R):s_l17Below p top k=k (below p top):=by
 have hp':p.size<=2097152:=hp
 have ht':top.size<=2097152:=ht
 have hS:(S [47]).size=1:=rfl
 simp only [s_l17Below,below]
 rw [w64_suc (by omega),Int.toNat_natCast,chk_of,chk_of]
 ·rw [sizeOk_of (by omega),Bool.or_true]
 ·cases hc:decide ((top.size:Int)<(p.size:Int)) with
  | false=>rw [Bool.and_false]; rfl
  | true =>
   rw [decide_eq_true_eq] at hc
   have:loOk ((top.size+1:Nat):Int) p.size=true:=by simp only [loOk,Bool.and_eq_true,decide_eq_true_eq]; omega
   rw [this,Bool.or_true]
def writeN (e:Event) (x:Node):Node:=bif (!(x.Path==e.Path))||x.Dir then x else bif e.At==0 then ⟨x.Path,x.Dir,e.Text,x.Tail⟩ else ⟨x.Path,x.Dir,x.Head,e.Text⟩
def moveN (e:Event) (x:Node):Node:=bif (x.Path==e.Path)&&(!x.Dir) then ⟨e.To,x.Dir,x.Head,x.Tail⟩ else x
def modelAfter (l:List Node) (e:Event):List Node :=
 bif (e.Kind==1)||(e.Kind==2) then sortN (l++[⟨e.Path,e.Kind==2,eS,eS⟩]) else
 bif e.Kind==3 then l.map (writeN e) else
 bif e.Kind==4 then l.filter (fun x=> !below x.Path e.Path) else
 bif e.Kind==5 then sortN (l.map (moveN e)) else l
theorem model_l8 {n:Nat} (hn:FUEL<=n) (l:List Node) (hl:l.length<=LEN) (e:Event) (q:List Node->Option R):s_ModelAfter_l8 e.Path e.At e.Text q n 0 l=q (l.map (writeN e)):=by
 have hl':l.length<=2097152:=hl
 refine loop_inplace (R:=R) (L:=s_ModelAfter_l8 e.Path e.At e.Text q) (f:=writeN e) (B:=0) (q:=q) (fun m a b x _ h=> ?_) (fun m a=> ?_) l [] n (by simp; omega) (fuel_lt hn (by omega))
 ·have g:(a++x::b).getD a.length dNode=x:=getD_mid dNode rfl
  have s:∀ y,(a++x::b).set a.length y=a++y::b:=fun y=>set_mid y rfl
  simp only [s_ModelAfter_l8,Int.toNat_natCast,g,s,inR_nat]
  rw [show decide ((a.length:Int)<((a++x::b).length:Int))=true by simp; omega,show decide (a.length<(a++x::b).length)=true by simp]
  simp only [cond_true,chk_t,Bool.or_true,writeN]
  cases (!(x.Path==e.Path))||x.Dir with
  | true=>rfl
  | false=>cases e.At==0<;>rfl
 ·simp [s_ModelAfter_l8]
theorem model_l24 {n:Nat} (hn:FUEL<=n) (l:List Node) (hl:l.length<=LEN) (e:Event) (q:List Node->Option R):s_ModelAfter_l24 e.Path e.To q n 0 l=q (l.map (moveN e)):=by
 have hl':l.length<=2097152:=hl
 refine loop_inplace (R:=R) (L:=s_ModelAfter_l24 e.Path e.To q) (f:=moveN e) (B:=0) (q:=q) (fun m a b x _ h=> ?_) (fun m a=> ?_) l [] n (by simp; omega) (fuel_lt hn (by omega))
 ·have g:(a++x::b).getD a.length dNode=x:=getD_mid dNode rfl
  have s:∀ y,(a++x::b).set a.length y=a++y::b:=fun y=>set_mid y rfl
  simp only [s_ModelAfter_l24,Int.toNat_natCast,g,s,inR_nat]
  rw [show decide ((a.length:Int)<((a++x::b).length:Int))=true by simp; omega,show decide (a.length<(a++x::b).length)=true by simp]
  simp only [cond_true,chk_t,Bool.or_true,moveN]
  cases (x.Path==e.Path)&&(!x.Dir)<;>rfl
 ·simp [s_ModelAfter_l24]
theorem model_l17 {n:Nat} (hn:FUEL<=n) (l:List Node) (hl:l.length<=LEN) (hp:∀ x∈l,x.Path.size<=LEN) (p:ByteArray) (hpp:p.size<=LEN) (q:List Node->Option R):s_ModelAfter_l17 p l q n 0 []=q (l.filter (fun x=> !below x.Path p)):=by
 have hl':l.length<=2097152:=hl
 refine loop_filter (R:=R) (L:=s_ModelAfter_l17 p l q) dNode (P:=fun x=> !below x.Path p) (B:=0) (q:=q) (by omega) (fun m i acc _ hi ha=> ?_) (fun m acc=>by simp [s_ModelAfter_l17]) (fuel_lt hn (by omega))
 simp only [s_ModelAfter_l17,lt_nat,inR_nat,hi,decide_true,cond_true,chk_t,Int.toNat_natCast]
 rw [l17Below_eq _ _ (hp _ (getD_mem dNode hi)) hpp]
 cases below (l.getD i dNode).Path p with
 | true=>rfl
 | false=>simp only [Bool.not_false,cond_true]; rw [chk_of (lenOk_app ha (by omega) (by simp))]
theorem ModelAfter_eq {n:Nat} (hn:FUEL<=n) (l:List Node) (hl:l.length<=1048576) (hp:∀ x∈l,x.Path.size<=LEN) (e:Event) (he:e.Path.size<=LEN) (k:List Node->Option R):s_ModelAfter n l e k=k (modelAfter l e):=by
 have hl2:l.length<=LEN:=Nat.le_trans hl (by decide)
 have hla:∀ y,(l++[y]).length<=LEN:=fun y=>by rw [List.length_append,List.length_singleton]; exact Nat.le_trans (Nat.succ_le_succ hl) (by decide)
 have hlm:(l.map (moveN e)).length<=LEN:=by rw [List.length_map]; exact hl2
 have ok2:∀ y:Node,lenOk (l++[y])=true:=fun y=>lenOk_of (by rw [List.length_append,List.length_singleton]; omega)
 simp only [s_ModelAfter,modelAfter,List.nil_append]
 rw [chk_of (lenOk_of (by omega))]
 simp only [ok2,chk_t]
 rw [model_l8 hn l hl2,model_l17 hn l hl2 hp _ he,model_l24 hn l hl2]
 simp only [l14Sorted_eq hn _ (hla _),l14Sorted_eq hn _ hlm]
 cases e.Kind==1<;>cases e.Kind==2<;>cases e.Kind==3<;>cases e.Kind==4<;>cases e.Kind==5<;>rfl
theorem bt_lt (s:ByteArray) (i:Nat):bt s i<256:=by rw [bt_eq]; exact UInt8.toNat_lt _
def bitOf (s:ByteArray) (i:Nat):Bool:=(bt s (i/8)/2 ^ (i % 8)) % 2==1
def readBits (s:ByteArray):Bits×Bool:=bif s.size==3 then (⟨(List.range' 0 16).map (bitOf s),(List.range' 16 8).map (bitOf s)⟩,true) else (⟨[],[]⟩,false)
theorem readBits_l9 (i:Nat) (q:Int->Option R):∀ (r k m x:Nat),k+r=i % 8->r<m->x<=1000000->s_ReadBits_l9 (i:Int) q m (x:Int) (k:Int)=q ((x/2 ^ r:Nat):Int)
 | 0,k,0,x,h1,h2,h3=>by omega
 | 0,k,m+1,x,h1,h2,h3=>by
  simp only [s_ReadBits_l9]
  rw [Int.tmod_eq_emod_of_nonneg (by omega),show decide ((k:Int)<(i:Int) % 8)=false by simp; omega]
  simp
 | r+1,k,0,x,h1,h2,h3=>by omega
 | r+1,k,m+1,x,h1,h2,h3=>by
  simp only [s_ReadBits_l9]
  rw [Int.tmod_eq_emod_of_nonneg (by omega),show decide ((k:Int)<(i:Int) % 8)=true by rw [decide_eq_true_eq]; omega,bif_t,Int.tdiv_eq_ediv_of_nonneg (by omega),show (x:Int)/2=((x/2:Nat):Int) by omega,w64_nat (by omega),w64_suc (by omega),
   readBits_l9 i q r (k+1) m (x/2) (by omega) (by omega) (by omega),Nat.div_div_eq_div_mul,Nat.pow_succ,Nat.mul_comm]
theorem bit_beq (x:Nat):(((x:Int).tmod 2)==1)=(x % 2==1):=by
 rw [Int.tmod_eq_emod_of_nonneg (by omega),show (x:Int) % 2=((x % 2:Nat):Int) by omega,show (1:Int)=((1:Nat):Int) from rfl,int_beq]
theorem readBits_step (s:ByteArray) (h3:s.size=3) (q:List Bool->List Bool->Option R) (m j:Nat) (hj:j<24) (hm:8<m) (a b:List Bool) (ha:a.length<=1000) (hb:b.length<=1000) :
  s_ReadBits_l5 s q (m+1) (j:Int) a b=bif decide (j<16) then s_ReadBits_l5 s q m ((j+1:Nat):Int) (a++[bitOf s j]) b else s_ReadBits_l5 s q m ((j+1:Nat):Int) a (b++[bitOf s j]):=by
 have hb8:=bt_lt s (j/8)
 simp only [s_ReadBits_l5]
 rw [show decide ((j:Int)<24)=true by rw [decide_eq_true_eq]; omega,bif_t,Int.tdiv_eq_ediv_of_nonneg (by omega),show (j:Int)/8=((j/8:Nat):Int) by omega,w64_nat (by omega),inR_nat,h3,show decide (j/8<3)=true by rw [decide_eq_true_eq]; omega,chk_t,Int.toNat_natCast,w64_nat (by omega)]
 refine (readBits_l9 (R:=R) j _ (j % 8) 0 m _ (by omega) (by omega) (by omega)).trans ?_
 rw [bit_beq,w64_suc (by omega),chk_of (lenOk_app ha (by omega) (by simp)),chk_of (lenOk_app hb (by omega) (by simp)),show decide ((j:Int)<16)=decide (j<16) from decide_eq_decide.2 (by omega)]
 rfl
theorem readBits_l5b (s:ByteArray) (h3:s.size=3) (q:List Bool->List Bool->Option R):∀ (r j m:Nat) (a b:List Bool),j+r=24->16<=j->a.length<=1000->b.length<=j->r+10<m->s_ReadBits_l5 s q m (j:Int) a b=q a (b++(List.range' j r).map (bitOf s))
 | 0,j,0,a,b,h1,h2,ha,hb,hm=>by omega
 | 0,j,m+1,a,b,h1,h2,ha,hb,hm=>by
  simp only [s_ReadBits_l5]
  rw [show decide ((j:Int)<24)=false by simp; omega]; simp
 | r+1,j,0,a,b,h1,h2,ha,hb,hm=>by omega
 | r+1,j,m+1,a,b,h1,h2,ha,hb,hm=>by
  rw [readBits_step s h3 q m j (by omega) (by omega) a b ha (by omega),decide_eq_false (by omega),bif_f,readBits_l5b s h3 q r (j+1) m a _ (by omega) (by omega) ha (by rw [List.length_append,List.length_singleton]; omega) (by omega),List.range'_succ,List.map_cons,List.append_assoc]
  rfl
theorem readBits_l5a (s:ByteArray) (h3:s.size=3) (q:List Bool->List Bool->Option R):∀ (r j m:Nat) (a:List Bool),j+r=16->a.length<=j->r+30<m->s_ReadBits_l5 s q m (j:Int) a []=q (a++(List.range' j r).map (bitOf s)) ((List.range' 16 8).map (bitOf s))
 | 0,j,m,a,h1,ha,hm=>by
  have:j=16:=by omega
  subst this
  rw [readBits_l5b s h3 q 8 16 m a [] rfl (by omega) (by omega) (by simp) (by omega)]; simp
 | r+1,j,0,a,h1,ha,hm=>by omega
 | r+1,j,m+1,a,h1,ha,hm=>by
  rw [readBits_step s h3 q m j (by omega) (by omega) a [] (by omega) (by simp),decide_eq_true (by omega),bif_t,readBits_l5a s h3 q r (j+1) m _ (by omega) (by rw [List.length_append,List.length_singleton]; omega) (by omega),List.range'_succ,List.map_cons,List.append_assoc]
  rfl
theorem ReadBits_eq {n:Nat} (hn:FUEL<=n) (s:ByteArray) (k:Bits->Bool->Option R):s_ReadBits n s k=k (readBits s).1 (readBits s).2:=by
 simp only [s_ReadBits,readBits]
 rw [show (3:Int)=((3:Nat):Int) from rfl,int_beq]
 cases h:s.size==3 with
 | false=>rfl
 | true =>
  simp only [Bool.not_true,cond_false,cond_true]
  exact readBits_l5a s (by simpa using h) _ 16 0 n [] rfl (by simp) (fuel_lt hn (by omega))
def inodeAt4 (s:ByteArray):Inode:=⟨bt s 0,bt s 1,[(bt s 2:Int),(bt s 3:Int)]⟩
def readInode (s:ByteArray):Inode×Bool:=bif (s.size==4)&&inodeOk (inodeAt4 s) then (inodeAt4 s,true) else (⟨0,0,[]⟩,false)
theorem ReadInode_eq {n:Nat} (hn:FUEL<=n) (s:ByteArray) (k:Inode->Bool->Option R):s_ReadInode n s k=k (readInode s).1 (readInode s).2:=by
 simp only [s_ReadInode,readInode]
 rw [show (4:Int)=((4:Nat):Int) from rfl,int_beq]
 cases h:s.size==4 with
 | false=>rfl
 | true =>
  have h4:s.size=4:=by simpa using h
  have b0:=bt_lt s 0
  have b1:=bt_lt s 1
  have b2:=bt_lt s 2
  have b3:=bt_lt s 3
  simp only [Bool.not_true,cond_false,Bool.true_and,h4]
  rw [w64_nat (by omega),w64_nat (by omega),w64_nat (by omega),w64_nat (by omega),chk_of (by rfl),chk_of (by rfl),chk_of (by rfl),chk_of (by rfl),InodeOk_eq hn]
  show (bif !inodeOk (inodeAt4 s) then _ else _)=_
  cases inodeOk (inodeAt4 s)<;>rfl
def rvI (t:ByteArray) (b:Nat):Nat->Nat->Nat->Nat->Int×Int×Bool
 | 0,_,_,_=>(0,0,false)
 | f+1,x,sc,i=>bif decide (i<t.size) then
   bif decide (bt t i<128) then
    bif decide (1000000000<x+bt t i % 128*sc)|| !(varL (x+bt t i % 128*sc)==t.extract b (i+1)) then (0,0,false) else (((x+bt t i % 128*sc:Nat):Int),((i+1:Nat):Int),true)
   else rvI t b f (x+bt t i % 128*sc) (sc*128) (i+1)
  else (0,0,false)
def readVar (t:ByteArray) (b:Int):Int×Int×Bool:=bif within b 0 t.size then rvI t b.toNat 5 0 1 b.toNat else (0,0,false)
theorem readVar_l6 {n:Nat} (hn:FUEL<=n) (t:ByteArray) (ht:t.size<=LEN) (b:Nat) (hb:b<=t.size) (q:Int->Int->Bool->Option R):∀ (f x sc i m:Nat),i+f=b+5->b<=i->sc<=128 ^ (5-f)->x<=128 ^ (5-f)->f<m ->
  s_ReadVar_l6 n t (b:Int) q (q 0 0 false) m (x:Int) (sc:Int) (i:Int)=q (rvI t b f x sc i).1 (rvI t b f x sc i).2.1 (rvI t b f x sc i).2.2
 | 0,x,sc,i,0,h1,h2,h3,h4,h5=>by omega
 | 0,x,sc,i,m+1,h1,h2,h3,h4,h5=>by
  have ht':t.size<=2097152:=ht
  simp only [s_ReadVar_l6,rvI]
  rw [w64_id (n:=(b:Int)+5) (by omega) (by omega),show decide ((i:Int)<(b:Int)+5)=false by simp; omega,Bool.and_false]
  rfl
 | f+1,x,sc,i,0,h1,h2,h3,h4,h5=>by omega
 | f+1,x,sc,i,m+1,h1,h2,h3,h4,h5=>by
  have ht':t.size<=2097152:=ht
  have hbt:=bt_lt t i
  have hf:f<=4:=by omega
  have hp:128 ^ (5-(f+1))<=128 ^ 4:=Nat.pow_le_pow_right (by decide) (by omega)
  have hp4:(128:Nat) ^ 4=268435456:=by decide
  have hps:128 ^ (5-f)=128 ^ (5-(f+1))*128:=by rw [← Nat.pow_succ]; congr 1; omega
  have hmul:bt t i % 128*sc<=127*sc:=Nat.mul_le_mul_right _ (by omega)
  simp only [s_ReadVar_l6,rvI]
  rw [w64_id (n:=(b:Int)+5) (by omega) (by omega),show decide ((i:Int)<(b:Int)+5)=true by rw [decide_eq_true_eq]; omega,Bool.and_true,lt_nat]
  cases hi:decide (i<t.size) with
  | false=>rfl
  | true =>
   simp only [cond_true,inR_nat,hi,chk_t,Int.toNat_natCast]
   have e1:w64 (((w64 ((bt t i:Nat):Int)).tmod 128)*(sc:Int))=((bt t i % 128*sc:Nat):Int):=by
    rw [w64_nat (by omega),Int.tmod_eq_emod_of_nonneg (by omega),show ((bt t i:Nat):Int) % 128=((bt t i % 128:Nat):Int) by omega,← Int.natCast_mul,w64_nat (by omega)]
   have e2:w64 ((x:Int)+((bt t i % 128*sc:Nat):Int))=((x+bt t i % 128*sc:Nat):Int):=by rw [← Int.natCast_add,w64_nat (by omega)]
   simp only [e1,e2]
   rw [w64_suc (by omega),show decide (((bt t i:Nat):Int)<128)=decide (bt t i<128) from decide_eq_decide.2 (by omega)]
   cases hc:decide (bt t i<128) with
   | true =>
    simp only [cond_true]
    rw [l01Var_eq hn _ (by omega),show decide ((1000000000:Int)<((x+bt t i % 128*sc:Nat):Int))=decide (1000000000<x+bt t i % 128*sc) from decide_eq_decide.2 (by omega),Int.toNat_natCast,
     show cutOk (b:Int) ((i+1:Nat):Int) t.size=true by rw [decide_eq_true_eq] at hi; simp only [cutOk,Bool.and_eq_true,decide_eq_true_eq]; omega,Bool.or_true,chk_t]
    cases decide (1000000000<x+bt t i % 128*sc) with
    | true=>rfl
    | false =>
     simp only [Bool.not_false,cond_true,Bool.false_or]
     cases varL (x+bt t i % 128*sc)==t.extract b (i+1)<;>rfl
   | false =>
    simp only [cond_false]
    rw [show (sc:Int)*128=((sc*128:Nat):Int) by omega,w64_nat (by omega)]
    exact readVar_l6 hn t ht b hb q f _ (sc*128) (i+1) m (by omega) (by omega) (by omega) (by omega) (by omega)
theorem ReadVar_eq {n:Nat} (hn:FUEL<=n) (t:ByteArray) (ht:t.size<=LEN) (b:Int) (k:Int->Int->Bool->Option R):s_ReadVar n t b k=k (readVar t b).1 (readVar t b).2.1 (readVar t b).2.2:=by
 simp only [s_ReadVar,readVar,In_eq]
 cases h:within b 0 t.size with
 | false=>rfl
 | true =>
  rw [within_iff] at h
  simp only [Bool.not_true,cond_false,cond_true]
  obtain ⟨c,rfl⟩:=Int.eq_ofNat_of_zero_le h.1
  exact readVar_l6 hn t ht c (by omega) k 5 0 1 c n (by omega) (by omega) (by decide) (by decide) (fuel_lt hn (by omega))
theorem rvI_range (t:ByteArray) (b:Nat):∀ (f x sc i:Nat),(rvI t b f x sc i)=(0,0,false)\/(0<=(rvI t b f x sc i).1/\(rvI t b f x sc i).1<=1000000000/\1<=(rvI t b f x sc i).2.1/\(rvI t b f x sc i).2.1<=t.size)
 | 0,x,sc,i=> .inl rfl
 | f+1,x,sc,i=>by
  simp only [rvI]
  cases hi:decide (i<t.size) with
  | false=>exact .inl rfl
  | true =>
   rw [decide_eq_true_eq] at hi
   simp only [cond_true]
   cases decide (bt t i<128) with
   | false=>exact rvI_range t b f _ _ _
   | true =>
    simp only [cond_true]
    cases hc:decide (1000000000<x+bt t i % 128*sc)|| !(varL (x+bt t i % 128*sc)==t.extract b (i+1)) with
    | true=>exact .inl rfl
    | false =>
     rw [Bool.or_eq_false_iff,decide_eq_false_iff_not] at hc
     refine .inr ⟨?_,?_,?_,?_⟩<;>simp only [cond_false]<;>omega
theorem readVar_range (t:ByteArray) (b:Int):(readVar t b)=(0,0,false)\/(0<=(readVar t b).1/\(readVar t b).1<=1000000000/\1<=(readVar t b).2.1/\(readVar t b).2.1<=t.size):=by
 simp only [readVar]
 cases within b 0 t.size with
 | false=>exact .inl rfl
 | true=>exact rvI_range t _ _ _ _ _
def readShort (t:ByteArray) (b:Int):ByteArray×Int×Bool :=
 bif ((!(readVar t b).2.2)||decide (20000<(readVar t b).1))||decide ((t.size:Int)-(readVar t b).2.1<(readVar t b).1) then (eS,0,false) else
 (t.extract (readVar t b).2.1.toNat ((readVar t b).2.1+(readVar t b).1).toNat,(readVar t b).2.1+(readVar t b).1,true)
theorem ReadShort_eq {n:Nat} (hn:FUEL<=n) (t:ByteArray) (ht:t.size<=LEN) (b:Int) (k:ByteArray->Int->Bool->Option R):s_ReadShort n t b k=k (readShort t b).1 (readShort t b).2.1 (readShort t b).2.2:=by
 have ht':t.size<=2097152:=ht
 simp only [s_ReadShort,readShort]
 rw [ReadVar_eq hn t ht]
 rcases readVar_range t b with h | ⟨h1,h2,h3,h4⟩
 ·rw [h]; rfl
 ·generalize readVar t b=r at *
  rw [w64_id (n:=(t.size:Int)-r.2.1) (by omega) (by omega),w64_id (n:=r.2.1+r.1) (by omega) (by omega)]
  cases hc:((!r.2.2)||decide (20000<r.1))||decide ((t.size:Int)-r.2.1<r.1) with
  | true=>rfl
  | false =>
   simp only [Bool.or_eq_false_iff,decide_eq_false_iff_not] at hc
   simp only [cond_false]
   rw [chk_of (by simp only [cutOk,Bool.and_eq_true,decide_eq_true_eq]; omega)]
theorem readShort_range (t:ByteArray) (b:Int):(readShort t b)=(eS,0,false)\/((readShort t b).1.size<=t.size/\1<=(readShort t b).2.1/\(readShort t b).2.1<=t.size):=by
 simp only [readShort]
 rcases readVar_range t b with h | ⟨h1,h2,h3,h4⟩
 ·rw [h]; exact .inl rfl
 ·generalize readVar t b=r at *
  cases hc:((!r.2.2)||decide (20000<r.1))||decide ((t.size:Int)-r.2.1<r.1) with
  | true=>exact .inl rfl
  | false =>
   simp only [Bool.or_eq_false_iff,decide_eq_false_iff_not] at hc
   refine .inr ⟨?_,?_,?_⟩<;>simp only [cond_false]
   ·rw [ByteArray.size_extract]; omega
   ·omega
   ·omega
def rbI (s:ByteArray):Nat->Int->List Slot->Option (List Slot)
 | 0,_,acc=>some acc
 | f+1,at',acc=>bif decide (at'<(s.size:Int)) then
   bif (readShort s (at'+1)).2.2 then rbI s f (readShort s (at'+1)).2.1 (acc++[⟨(readShort s (at'+1)).1,bt s at'.toNat⟩]) else none
  else some acc
def backBlock (b:Block) (s:ByteArray):Block×Bool:=bif (!blockOk b)|| !(blockText b==s) then (⟨false,[],eS⟩,false) else (b,true)
def readBlock (s:ByteArray):Block×Bool:=bif s==eS then (⟨false,[],eS⟩,false) else
 bif bt s 0==100 then (match rbI s 4 1 [] with | none=>(⟨false,[],eS⟩,false) | some l=>backBlock ⟨true,l,eS⟩ s) else backBlock ⟨false,[],s.extract 1 s.size⟩ s
theorem readBlock_l8 {n:Nat} (hn:FUEL<=n) (s:ByteArray) (hs:s.size<=LEN) (q0:Bool->Bool->ByteArray->List Slot->Option R) (q1:List Slot->Option R):∀ (f i m:Nat) (a:Int) (acc:List Slot),i+f=4->f<m->1<=a->acc.length=i->(∀ x∈acc,x.Name.size<=s.size) ->
  s_ReadBlock_l8 n s q0 q1 m a (i:Int) acc=(match rbI s f a acc with | none=>q0 false false eS [] | some l=>q1 l)/\∀ l,rbI s f a acc=some l->l.length<=4/\∀ x∈l,x.Name.size<=s.size
 | f,i,0,a,acc,h1,h2,h3,h4,h5=>by omega
 | 0,i,m+1,a,acc,h1,h2,h3,h4,h5=>by
  simp only [s_ReadBlock_l8,rbI]
  rw [show decide ((i:Int)<4)=false by simp; omega,Bool.false_and]
  exact ⟨rfl,fun l hl=>by cases hl; exact ⟨by omega,h5⟩⟩
 | f+1,i,m+1,a,acc,h1,h2,h3,h4,h5=>by
  have hs':s.size<=2097152:=hs
  simp only [s_ReadBlock_l8,rbI]
  rw [show decide ((i:Int)<4)=true by rw [decide_eq_true_eq]; omega,Bool.true_and]
  cases hc:decide (a<(s.size:Int)) with
  | false=>exact ⟨rfl,fun l hl=>by cases hl; exact ⟨by omega,h5⟩⟩
  | true =>
   rw [decide_eq_true_eq] at hc
   have hb:=bt_lt s a.toNat
   simp only [cond_true]
   rw [w64_id (n:=a+1) (by omega) (by omega),ReadShort_eq hn s hs]
   rcases readShort_range s (a+1) with h | ⟨r1,r2,r3⟩
   ·rw [h]; exact ⟨rfl,fun l hl=>by cases hl⟩
   ·generalize readShort s (a+1)=r at *
    cases hr:r.2.2 with
    | false=>exact ⟨rfl,fun l hl=>by cases hl⟩
    | true =>
     simp only [Bool.not_true,cond_false,cond_true]
     rw [chk_of (by simp only [inR,Bool.and_eq_true,decide_eq_true_eq]; omega),w64_nat (n:=bt s a.toNat) (by omega),chk_of (lenOk_app (i:=i) (by omega) (by omega) (by simp)),w64_suc (by omega)]
     exact readBlock_l8 hn s hs q0 q1 f (i+1) m r.2.1 _ (by omega) (by omega) r2 (by rw [List.length_append,h4,List.length_singleton]) (fun x hx=>by
      rcases List.mem_append.1 hx with hx | hx
      ·exact h5 x hx
      ·rw [List.mem_singleton] at hx; subst hx; exact r1)
theorem ReadBlock_eq {n:Nat} (hn:FUEL<=n) (s:ByteArray) (hs:s.size<=LEN) (k:Block->Bool->Option R):s_ReadBlock n s k=k (readBlock s).1 (readBlock s).2:=by
 have hs':s.size<=2097152:=hs
 simp only [s_ReadBlock,readBlock]
 cases h0:s==eS with
 | true=>rfl
 | false =>
  have hp:0<s.size:=Nat.pos_of_ne_zero fun z=>by
   rw [beq_eq_false_iff_ne] at h0
   apply h0
   apply ByteArray.ext
   exact Array.eq_empty_of_size_eq_zero z
  simp only [cond_false]
  rw [chk_of (by simp only [loOk,Bool.and_eq_true,decide_eq_true_eq]; omega),chk_of (by simp only [inR,Bool.and_eq_true,decide_eq_true_eq]; omega),show (100:Int)=((100:Nat):Int) from rfl,int_beq]
  have back:∀ (b:Block),SzBlock b->∀ k:Block->Bool->Option R,(s_BlockText n b fun r r_1=>bif (!r_1)||(!(r==s)) then k ⟨false,[],eS⟩ false else k b true)=k (backBlock b s).1 (backBlock b s).2:=fun b hb k=>by
   rw [BlockText_eq hn b hb]
   simp only [backBlock]
   cases (!blockOk b)||(!(blockText b==s))<;>rfl
  cases bt s 0==100 with
  | true =>
   simp only [cond_true]
   have:=readBlock_l8 (R:=R) hn s hs (fun x v v_1 v_2=>k ⟨v,v_2,v_1⟩ x) (fun v_3=>s_BlockText n ⟨true,v_3,eS⟩ fun r r_1=>bif (!r_1)||(!(r==s)) then k ⟨false,[],eS⟩ false else k ⟨true,v_3,eS⟩ true) 4 0 n 1 [] rfl (fuel_lt hn (by omega)) (by decide) rfl (fun x hx=>by cases hx)
   refine this.1.trans ?_
   cases hl:rbI s 4 1 [] with
   | none=>rfl
   | some l =>
    have h2:=this.2 l hl
    exact back _ ⟨Nat.le_trans h2.1 (by decide),by show eS.size<=LEN; decide,fun x hx=>Nat.le_trans (h2.2 x hx) hs⟩ k
  | false =>
   simp only [cond_false]
   exact back _ ⟨Nat.zero_le _,by show (s.extract 1 s.size).size<=LEN; rw [ByteArray.size_extract]; exact Nat.le_trans (by omega) hs,fun x hx=>by cases hx⟩ k
theorem readBlock_ok (s:ByteArray):blockOk (readBlock s).1=true:=by
 have h0:blockOk ⟨false,[],eS⟩=true:=rfl
 have hb:∀ b,blockOk (backBlock b s).1=true:=fun b=>by
  simp only [backBlock]
  cases h:blockOk b with
  | false=>exact h0
  | true=>cases blockText b==s<;>first | exact h0 | exact h
 simp only [readBlock]
 cases s==eS with
 | true=>exact h0
 | false =>
  cases bt s 0==100 with
  | true =>
   simp only [cond_true,cond_false]
   cases rbI s 4 1 [] with
   | none=>exact h0
   | some l=>exact hb _
  | false=>exact hb _
def inodeOf (s:ByteArray) (j:Nat):Inode:=bif s.size==8 then (bif (readInode (s.extract (4*j) (4*j+4))).2 then (readInode (s.extract (4*j) (4*j+4))).1 else inodeNew 0) else inodeNew 0
def unitAt (d:Device) (u:Nat):ByteArray:=d.Units.getD u eS
def bitsOf (d:Device):Bits:=bif (readBits (unitAt d 0)).2 then (readBits (unitAt d 0)).1 else ⟨List.replicate 16 true,List.replicate 8 true⟩
def diskOfOk (d:Device):Disk:=⟨bitsOf d,(List.range' 0 8).map fun i=>inodeOf (unitAt d (1+i/2)) (i % 2),(List.range' 0 16).map fun i=>(readBlock (unitAt d (5+i))).1⟩
def diskOf (d:Device):Disk×Bool:=bif deviceOk d then (diskOfOk d,true) else (⟨⟨[],[]⟩,[],[]⟩,false)
theorem readInode_ok (s:ByteArray) (h:(readInode s).2=true):inodeOk (readInode s).1=true:=by
 revert h
 simp only [readInode]
 cases hc:(s.size==4)&&inodeOk (inodeAt4 s) with
 | false=>intro h; cases h
 | true=>intro _; rw [Bool.and_eq_true] at hc; exact hc.2
theorem inodeOf_ok (s:ByteArray) (j:Nat):inodeOk (inodeOf s j)=true:=by
 simp only [inodeOf]
 cases s.size==8 with
 | false=>rfl
 | true =>
  simp only [cond_true]
  cases h:(readInode (s.extract (4*j) (4*j+4))).2 with
  | false=>rfl
  | true=>exact readInode_ok _ h
theorem bitsOf_len (d:Device):(bitsOf d).Blocks.length=16/\(bitsOf d).Inos.length=8:=by
 simp only [bitsOf,readBits]
 cases (unitAt d 0).size==3 with
 | false=>exact ⟨rfl,rfl⟩
 | true=>exact ⟨by simp,by simp⟩
theorem DiskR.of (d:Device):DiskR (diskOfOk d):=by
 have:=bitsOf_len d
 refine ⟨this.1,this.2,by simp [diskOfOk],by simp [diskOfOk],fun x hx=> ?_,fun b hb=> ?_⟩
 ·simp only [diskOfOk,List.mem_map] at hx
  obtain ⟨i,_,rfl⟩:=hx
  exact inodeOf_ok _ _
 ·simp only [diskOfOk,List.mem_map] at hb
  obtain ⟨i,_,rfl⟩:=hb
  exact readBlock_ok _
theorem fill_l8 (q:List Bool->Option R):∀ (b a:List Bool) (n:Nat),a.length+b.length<=1000->b.length<n->s_DiskOf_l8 q n (a.length:Int) (a++b)=q (a++b.map fun _=>true):=fun b a n h1 h2 =>
 loop_inplace (R:=R) (L:=s_DiskOf_l8 q) (f:=fun _=>true) (B:=0) (q:=q) (fun m a b x _ h=>by
  have s:(a++x::b).set a.length true=a++true::b:=set_mid true rfl
  simp only [s_DiskOf_l8,Int.toNat_natCast,s,inR_nat]
  rw [show decide ((a.length:Int)<((a++x::b).length:Int))=true by simp; omega,show decide (a.length<(a++x::b).length)=true by simp]
  rfl) (fun m a=>by simp [s_DiskOf_l8]) b a n (by omega) (by omega)
theorem fill_l12 (q:List Bool->Option R):∀ (b a:List Bool) (n:Nat),a.length+b.length<=1000->b.length<n->s_DiskOf_l12 q n (a.length:Int) (a++b)=q (a++b.map fun _=>true):=fun b a n h1 h2 =>
 loop_inplace (R:=R) (L:=s_DiskOf_l12 q) (f:=fun _=>true) (B:=0) (q:=q) (fun m a b x _ h=>by
  have s:(a++x::b).set a.length true=a++true::b:=set_mid true rfl
  simp only [s_DiskOf_l12,Int.toNat_natCast,s,inR_nat]
  rw [show decide ((a.length:Int)<((a++x::b).length:Int))=true by simp; omega,show decide (a.length<(a++x::b).length)=true by simp]
  rfl) (fun m a=>by simp [s_DiskOf_l12]) b a n (by omega) (by omega)
theorem diskOf_l17 {n:Nat} (hn:FUEL<=n) (d:Device) (h:d.Units.length=21) (q:List Inode->Option R):s_DiskOf_l17 n d.Units q n 0 []=q ((List.range' 0 8).map fun i=>inodeOf (unitAt d (1+i/2)) (i % 2)):=by
 refine loop_build (R:=R) (L:=s_DiskOf_l17 n d.Units q) (N:=8) (f:=fun i=>inodeOf (unitAt d (1+i/2)) (i % 2)) (B:=0) (q:=q) (by omega) (fun m i acc _ hi ha=> ?_) (fun m acc=>by simp [s_DiskOf_l17]) 8 0 n [] rfl rfl (fuel_lt hn (by omega))
 simp only [s_DiskOf_l17]
 rw [show decide ((i:Int)<8)=true by rw [decide_eq_true_eq]; omega,bif_t,Int.tdiv_eq_ediv_of_nonneg (by omega),Int.tmod_eq_emod_of_nonneg (by omega),show (i:Int)/2=((i/2:Nat):Int) by omega,show (i:Int) % 2=((i % 2:Nat):Int) by omega,
  w64_nat (n:=i/2) (by omega),show (1:Int)+((i/2:Nat):Int)=((1+i/2:Nat):Int) by omega,w64_nat (n:=1+i/2) (by omega),show (4:Int)*((i % 2:Nat):Int)=((4*(i % 2):Nat):Int) by omega,w64_nat (n:=4*(i % 2)) (by omega),
  show ((4*(i % 2):Nat):Int)+4=((4*(i % 2)+4:Nat):Int) by omega,w64_nat (n:=4*(i % 2)+4) (by omega),inR_nat,h,show decide (1+i/2<21)=true by rw [decide_eq_true_eq]; omega,chk_t,InodeNew_eq]
 simp only [Int.toNat_natCast]
 rw [show (8:Int)=((8:Nat):Int) from rfl,int_beq]
 have hacc:∀ y:Inode,lenOk (acc++[y])=true:=fun y=>lenOk_app (i:=i) (by omega) (by omega) (by simp)
 show (bif (unitAt d (1+i/2)).size==8 then _ else _)=_
 simp only [inodeOf]
 cases h8:(unitAt d (1+i/2)).size==8 with
 | false=>simp only [cond_false]; rw [chk_of (hacc _)]
 | true =>
  have h8':(unitAt d (1+i/2)).size=8:=by simpa using h8
  simp only [cond_true]
  rw [chk_of (by show cutOk _ _ (unitAt d (1+i/2)).size=true; rw [h8']; simp only [cutOk,Bool.and_eq_true,decide_eq_true_eq]; omega),ReadInode_eq hn]
  show (bif (readInode ((unitAt d (1+i/2)).extract (4*(i % 2)) (4*(i % 2)+4))).2 then _ else _)=_
  cases (readInode ((unitAt d (1+i/2)).extract (4*(i % 2)) (4*(i % 2)+4))).2 with
  | true=>simp only [cond_true]; rw [chk_of (hacc _)]; rfl
  | false=>simp only [cond_false]; rw [chk_of (hacc _)]
theorem diskOf_l27 {n:Nat} (hn:FUEL<=n) (d:Device) (h:d.Units.length=21) (hs:∀ s∈d.Units,s.size<=LEN) (q:List Block->Option R):s_DiskOf_l27 n d.Units q n 0 []=q ((List.range' 0 16).map fun i=>(readBlock (unitAt d (5+i))).1):=by
 refine loop_build (R:=R) (L:=s_DiskOf_l27 n d.Units q) (N:=16) (f:=fun i=>(readBlock (unitAt d (5+i))).1) (B:=0) (q:=q) (by omega) (fun m i acc _ hi ha=> ?_) (fun m acc=>by simp [s_DiskOf_l27]) 16 0 n [] rfl rfl (fuel_lt hn (by omega))
 simp only [s_DiskOf_l27]
 rw [show decide ((i:Int)<16)=true by rw [decide_eq_true_eq]; omega,bif_t,show (5:Int)+(i:Int)=((5+i:Nat):Int) by omega,w64_nat (n:=5+i) (by omega),inR_nat,h,show decide (5+i<21)=true by rw [decide_eq_true_eq]; omega,chk_t,Int.toNat_natCast]
 refine (ReadBlock_eq hn _ (hs _ (getD_mem eS (by omega))) _).trans ?_
 rw [chk_of (lenOk_app (i:=i) (by omega) (by omega) (by simp))]
 rfl
theorem devUnits {d:Device} (h:deviceOk d=true):∀ s∈d.Units,s.size<=60:=fun s hs=>by
 simp only [deviceOk,Bool.and_eq_true,List.all_eq_true] at h
 have:=h.1 s hs
 simp only [unitS,Bool.not_eq_true',decide_eq_false_iff_not] at this
 omega
theorem DiskOf_eq {n:Nat} (hn:FUEL<=n) (d:Device) (hd:d.Units.length<=LEN) (k:Disk->Bool->Option R):s_DiskOf n d k=k (diskOf d).1 (diskOf d).2:=by
 simp only [s_DiskOf,diskOf]
 rw [DeviceOk_eq hn d hd]
 cases h:deviceOk d with
 | false=>rfl
 | true =>
  have h21:=devLen h
  have hsz:∀ s∈d.Units,s.size<=LEN:=fun s hs=>Nat.le_trans (devUnits h s hs) (by decide)
  simp only [Bool.not_true,cond_false,cond_true]
  rw [chk_of (by rw [h21]; rfl),ReadBits_eq hn]
  have l17:=fun q=>diskOf_l17 (R:=R) hn d h21 q
  have l27:=fun q=>diskOf_l27 (R:=R) hn d h21 hsz q
  show (bif !(readBits (unitAt d 0)).2 then _ else _)=_
  simp only [diskOfOk,bitsOf]
  cases (readBits (unitAt d 0)).2 with
  | true =>
   simp only [Bool.not_true,cond_false,cond_true]
   rw [l17,l27]; rfl
  | false =>
   simp only [Bool.not_false,cond_false,cond_true,s_BitsNew]
   rw [chk_of (by rfl)]
   refine (fill_l8 _ (List.replicate 16 false) [] n (by decide) (fuel_lt hn (by decide))).trans ?_
   refine (fill_l12 _ ((List.replicate 8 false).set 0 true) [] n (by decide) (fuel_lt hn (by decide))).trans ?_
   rw [l17,l27]; rfl
def dirsOf (l:List Node):List ByteArray:=eS::(l.filter (·.Dir)).map (·.Path)
def filesOf (l:List Node):List ByteArray:=(l.filter fun x=> !x.Dir).map (·.Path)
def FreshP (l:List Node) (p:ByteArray):Prop:=∃ d∈dirsOf l,∃ x∈names5,p=(d++S [47])++x
def texts4:List ByteArray:=[eS,S [120],S [104,101,108,108,111],S [48,49,50,51,52,53,54,55,56,57,97,98,99,100,101,102]]
inductive EvFrom (l:List Node):Event->Prop
 | make (k:Int) (p:ByteArray):k=1\/k=2->FreshP l p->EvFrom l ⟨k,p,eS,0,eS⟩
 | write (p:ByteArray) (a:Int) (t:ByteArray):(p∈filesOf l\/p=S [47,97])->a=0\/a=1->t∈texts4->EvFrom l ⟨3,p,eS,a,t⟩
 | remove (p:ByteArray):(p∈l.map (·.Path)\/p=S [47,98])->EvFrom l ⟨4,p,eS,0,eS⟩
 | move (p q:ByteArray):(p∈filesOf l\/p=S [47,97])->FreshP l q->EvFrom l ⟨5,p,q,0,eS⟩
 | back (u:Int):0<=u->u<=20->EvFrom l ⟨6,eS,eS,u,eS⟩
 | flush:EvFrom l ⟨7,eS,eS,0,eS⟩
theorem next_l6 {n:Nat} (hn:FUEL<=n) (l:List Node) (hl:l.length<=1048576) (q:List ByteArray->List ByteArray->List ByteArray->Option R):s_l17Next_l6 l q n 0 [] [eS] []=q (filesOf l) (dirsOf l) (l.map (·.Path)):=by
 have key:∀ (r i m:Nat) (a b c:List ByteArray),i+r=l.length->r<m->a.length<=i->b.length<=i+1->c.length<=i ->
   s_l17Next_l6 l q m (i:Int) a b c=q (a++((l.drop i).filter fun x=> !x.Dir).map (·.Path)) (b++((l.drop i).filter (·.Dir)).map (·.Path)) (c++(l.drop i).map (·.Path)):=by
  intro r
  induction r with
  | zero =>
   intro i m a b c h1 h2 h3 h4 h5
   cases m with
   | zero=>omega
   | succ m =>
    have:i=l.length:=by omega
    subst this
    simp [s_l17Next_l6]
  | succ r ih =>
   intro i m a b c h1 h2 h3 h4 h5
   cases m with
   | zero=>omega
   | succ m =>
    have hi:i<l.length:=by omega
    simp only [s_l17Next_l6,lt_nat,inR_nat,hi,decide_true,cond_true,chk_t,Int.toNat_natCast]
    rw [chk_of (lenOk_app (i:=i) h5 (by omega) (by simp)),w64_suc (by omega),drop_getD dNode hi]
    generalize l.getD i dNode=el
    cases hd:el.Dir with
    | true =>
     simp only [cond_true]
     rw [chk_of (lenOk_app (i:=i+1) h4 (by omega) (by simp)),ih (i+1) m _ _ _ (by omega) (by omega) (by omega) (by rw [List.length_append,List.length_singleton]; omega) (by rw [List.length_append,List.length_singleton]; omega)]
     simp [List.filter_cons,hd]
    | false =>
     simp only [cond_false]
     rw [chk_of (lenOk_app (i:=i) h3 (by omega) (by simp)),ih (i+1) m _ _ _ (by omega) (by omega) (by rw [List.length_append,List.length_singleton]; omega) (by omega) (by rw [List.length_append,List.length_singleton]; omega)]
     simp [List.filter_cons,hd]
 exact key l.length 0 n [] [eS] [] (by omega) (fuel_lt hn (by omega)) (by simp) (by simp) (by simp)
theorem next_l34 {n:Nat} (hn:FUEL<=n) (y:List Bool) (hy:y.length=21):∃ l:List Int,l.length<=21/\(∀ u∈l,0<=u/\u<=20)/\∀ q:List Int->Option R,s_l17Next_l34 y q n 0 []=q l:=by
 have key:∀ (r i:Nat) (a:List Int),i+r=21->a.length<=i->(∀ u∈a,0<=u/\u<=20)->∃ l:List Int,l.length<=21/\(∀ u∈l,0<=u/\u<=20)/\∀ (m:Nat) (q:List Int->Option R),r<m->s_l17Next_l34 y q m (i:Int) a=q l:=by
  intro r
  induction r with
  | zero =>
   intro i a h1 h2 h3
   refine ⟨a,by omega,h3,fun m q hm=> ?_⟩
   cases m with
   | zero=>omega
   | succ m=>simp only [s_l17Next_l34,lt_nat,hy]; rw [show decide (i<21)=false by simp; omega]; rfl
  | succ r ih =>
   intro i a h1 h2 h3
   have hi:i<y.length:=by omega
   cases hb:y.getD i false with
   | true =>
    obtain ⟨l,l1,l2,l3⟩:=ih (i+1) (a++[(i:Int)]) (by omega) (by rw [List.length_append,List.length_singleton]; omega) (fun u hu=>by
     rcases List.mem_append.1 hu with hu | hu
     ·exact h3 u hu
     ·rw [List.mem_singleton] at hu; subst hu; omega)
    refine ⟨l,l1,l2,fun m q hm=> ?_⟩
    cases m with
    | zero=>omega
    | succ m =>
     simp only [s_l17Next_l34,lt_nat,inR_nat,hi,decide_true,cond_true,chk_t,Int.toNat_natCast,hb]
     rw [chk_of (lenOk_app (i:=i) h2 (by omega) (by simp)),w64_suc (by omega)]
     exact l3 m q (by omega)
   | false =>
    obtain ⟨l,l1,l2,l3⟩:=ih (i+1) a (by omega) (by omega) h3
    refine ⟨l,l1,l2,fun m q hm=> ?_⟩
    cases m with
    | zero=>omega
    | succ m =>
     simp only [s_l17Next_l34,lt_nat,inR_nat,hi,decide_true,cond_true,cond_false,chk_t,Int.toNat_natCast,hb]
     rw [w64_suc (by omega)]
     exact l3 m q (by omega)
 obtain ⟨l,l1,l2,l3⟩:=key 21 0 [] rfl (by simp) (fun u hu=>by cases hu)
 exact ⟨l,l1,l2,fun q=>l3 n q (fuel_lt hn (by omega))⟩
theorem names5_size {x:ByteArray} (h:x∈names5):x.size<=2:=by
 simp only [names5,List.mem_cons,List.not_mem_nil,or_false] at h
 rcases h with rfl | rfl | rfl | rfl | rfl<;>decide
theorem next_draw {n:Nat} (hn:FUEL<=n) (w:World) (hl:w.Model.length<=1048576) (hp:∀ x∈w.Model,x.Path.size<=1000) (hy:w.Fs.Mem.Dirty.length=21) (c:Cur) (hc:COk c):∃ e c',Cn c c'/\EvFrom w.Model e/\∀ k:Event->Cur->Option R,s_l17Next n w c k=k e c':=by
 obtain ⟨r,c1,hr,hc1,e1⟩:=pickInt_draw (R:=R) [1,1,1,2,2,3,3,3,4,4,5,5,6,6,6,6,6,6,6,7] (by decide) (by decide) c hc
 have hdl:(dirsOf w.Model).length<=1048577:=by simp only [dirsOf,List.length_cons,List.length_map]; have:=List.length_filter_le (·.Dir) w.Model; omega
 have hfl:(filesOf w.Model).length<=1048576:=by simp only [filesOf,List.length_map]; have:=List.length_filter_le (fun x=> !x.Dir) w.Model; omega
 have hd1:0<(dirsOf w.Model).length:=by simp [dirsOf]
 obtain ⟨a,c2,a1,a2,hc2,e2⟩:=below_draw (R:=R) ((dirsOf w.Model).length:Int) (by omega) (by omega) c1 hc1.1
 obtain ⟨x,c3,hx,hc3,e3⟩:=name_draw (R:=R) c2 hc2.1
 have hda:=getD_mem eS (show a.toNat<(dirsOf w.Model).length by omega)
 generalize hdd:(dirsOf w.Model).getD a.toNat eS=d at hda
 have hF:FreshP w.Model ((d++S [47])++x):=⟨d,hda,x,hx,rfl⟩
 have hds:d.size<=1000:=by
  simp only [dirsOf,List.mem_cons,List.mem_map,List.mem_filter] at hda
  rcases hda with rfl | ⟨z,hz,rfl⟩
  ·decide
  ·exact hp z hz.1
 have hS:(S [47]).size=1:=rfl
 have hxs:=names5_size hx
 have ok1:sizeOk d (S [47])=true:=sizeOk_of (by omega)
 have ok2:sizeOk (d++S [47]) x=true:=sizeOk_of (by rw [ByteArray.size_append]; omega)
 have b2:=hc1.tr hc2
 have b3:=b2.tr hc3
 have inA:inR a (dirsOf w.Model).length=true:=by simp only [inR,Bool.and_eq_true,decide_eq_true_eq]; omega
 have start:∀ (r':Int) (K:List ByteArray->List ByteArray->List ByteArray->Option R),s_l17Next_l6 w.Model K n 0 [] [eS] []=K (filesOf w.Model) (dirsOf w.Model) (w.Model.map (·.Path)):=fun _ K=>next_l6 hn w.Model hl K
 have hr':r=1\/r=2\/r=3\/r=4\/r=5\/r=6\/r=7:=by
  simp only [List.mem_cons,List.not_mem_nil,or_false] at hr; omega
 rcases hr' with rfl | rfl | rfl | rfl | rfl | rfl | rfl
 ·refine ⟨_,c3,b3,.make 1 _ (.inl rfl) hF,fun k=> ?_⟩
  simp only [s_l17Next]
  rw [e1,start 0,hc1.mk',e2,chk_of inA,hdd,chk_of ok1,b2.mk',e3,chk_of ok2,b3.mk']; rfl
 ·refine ⟨_,c3,b3,.make 2 _ (.inr rfl) hF,fun k=> ?_⟩
  simp only [s_l17Next]
  rw [e1,start 0,hc1.mk',e2,chk_of inA,hdd,chk_of ok1,b2.mk',e3,chk_of ok2,b3.mk']; rfl
 ·by_cases hf:0<(filesOf w.Model).length
  ·obtain ⟨f,c4,f1,f2,hc4,e4⟩:=below_draw (R:=R) ((filesOf w.Model).length:Int) (by omega) (by omega) c3 hc3.1
   have b4:=b3.tr hc4
   obtain ⟨t,c5,ht,hc5,e5⟩:=pick_draw (R:=R) texts4 (by decide) (by decide) c4 hc4.1
   have b5:=b4.tr hc5
   obtain ⟨z,c6,z1,z2,hc6,e6⟩:=below_draw (R:=R) 2 (by decide) (by decide) c5 hc5.1
   have b6:=b5.tr hc6
   refine ⟨_,c6,b6,.write ((filesOf w.Model).getD f.toNat eS) z t (.inl (getD_mem eS (by omega))) (by omega) ht,fun k=> ?_⟩
   simp only [s_l17Next]
   rw [e1,start 0,hc1.mk',e2,chk_of inA,hdd,chk_of ok1,b2.mk',e3,chk_of ok2,b3.mk']
   simp only [show ((3:Int)==1)=false from rfl,show ((3:Int)==2)=false from rfl,show ((3:Int)==3)=true from rfl,show ((3:Int)==5)=false from rfl,cond_false,cond_true]
   rw [decide_eq_true (show (0:Int)<((filesOf w.Model).length:Int) by omega),bif_t,e4,chk_of (by simp only [inR,Bool.and_eq_true,decide_eq_true_eq]; omega),b4.mk']
   refine (e5 _).trans ?_
   rw [b5.mk',e6,b6.mk']
  ·obtain ⟨t,c5,ht,hc5,e5⟩:=pick_draw (R:=R) texts4 (by decide) (by decide) c3 hc3.1
   have b5:=b3.tr hc5
   obtain ⟨z,c6,z1,z2,hc6,e6⟩:=below_draw (R:=R) 2 (by decide) (by decide) c5 hc5.1
   have b6:=b5.tr hc6
   refine ⟨_,c6,b6,.write (S [47,97]) z t (.inr rfl) (by omega) ht,fun k=> ?_⟩
   simp only [s_l17Next]
   rw [e1,start 0,hc1.mk',e2,chk_of inA,hdd,chk_of ok1,b2.mk',e3,chk_of ok2,b3.mk']
   simp only [show ((3:Int)==1)=false from rfl,show ((3:Int)==2)=false from rfl,show ((3:Int)==3)=true from rfl,show ((3:Int)==5)=false from rfl,cond_false,cond_true]
   rw [decide_eq_false (show ¬ (0:Int)<((filesOf w.Model).length:Int) by omega),bif_f]
   refine (e5 _).trans ?_
   rw [b5.mk',e6,b6.mk']
 ·by_cases hf:0<w.Model.length
  ·have hlm:(w.Model.map (·.Path)).length=w.Model.length:=List.length_map _
   obtain ⟨f,c4,f1,f2,hc4,e4⟩:=below_draw (R:=R) ((w.Model.map (·.Path)).length:Int) (by omega) (by omega) c3 hc3.1
   have b4:=b3.tr hc4
   refine ⟨_,c4,b4,.remove ((w.Model.map (·.Path)).getD f.toNat eS) (.inl (getD_mem eS (by omega))),fun k=> ?_⟩
   simp only [s_l17Next]
   rw [e1,start 0,hc1.mk',e2,chk_of inA,hdd,chk_of ok1,b2.mk',e3,chk_of ok2,b3.mk']
   simp only [show ((4:Int)==1)=false from rfl,show ((4:Int)==2)=false from rfl,show ((4:Int)==3)=false from rfl,show ((4:Int)==4)=true from rfl,show ((4:Int)==5)=false from rfl,cond_false,cond_true]
   rw [decide_eq_true (show (0:Int)<((w.Model.map (·.Path)).length:Int) by omega),bif_t,e4,chk_of (by simp only [inR,Bool.and_eq_true,decide_eq_true_eq]; omega),b4.mk']
  ·refine ⟨_,c3,b3,.remove (S [47,98]) (.inr rfl),fun k=> ?_⟩
   simp only [s_l17Next]
   rw [e1,start 0,hc1.mk',e2,chk_of inA,hdd,chk_of ok1,b2.mk',e3,chk_of ok2,b3.mk']
   simp only [show ((4:Int)==1)=false from rfl,show ((4:Int)==2)=false from rfl,show ((4:Int)==3)=false from rfl,show ((4:Int)==4)=true from rfl,show ((4:Int)==5)=false from rfl,cond_false,cond_true]
   rw [decide_eq_false (show ¬ (0:Int)<((w.Model.map (·.Path)).length:Int) by rw [List.length_map]; omega),bif_f]
 ·by_cases hf:0<(filesOf w.Model).length
  ·obtain ⟨f,c4,f1,f2,hc4,e4⟩:=below_draw (R:=R) ((filesOf w.Model).length:Int) (by omega) (by omega) c3 hc3.1
   have b4:=b3.tr hc4
   refine ⟨_,c4,b4,.move ((filesOf w.Model).getD f.toNat eS) _ (.inl (getD_mem eS (by omega))) hF,fun k=> ?_⟩
   simp only [s_l17Next]
   rw [e1,start 0,hc1.mk',e2,chk_of inA,hdd,chk_of ok1,b2.mk',e3,chk_of ok2,b3.mk']
   simp only [show ((5:Int)==1)=false from rfl,show ((5:Int)==2)=false from rfl,show ((5:Int)==3)=false from rfl,show ((5:Int)==5)=true from rfl,cond_false,cond_true]
   rw [decide_eq_true (show (0:Int)<((filesOf w.Model).length:Int) by omega),bif_t,e4,chk_of (by simp only [inR,Bool.and_eq_true,decide_eq_true_eq]; omega),b4.mk']
  ·refine ⟨_,c3,b3,.move (S [47,97]) _ (.inr rfl) hF,fun k=> ?_⟩
   simp only [s_l17Next]
   rw [e1,start 0,hc1.mk',e2,chk_of inA,hdd,chk_of ok1,b2.mk',e3,chk_of ok2,b3.mk']
   simp only [show ((5:Int)==1)=false from rfl,show ((5:Int)==2)=false from rfl,show ((5:Int)==3)=false from rfl,show ((5:Int)==5)=true from rfl,cond_false,cond_true]
   rw [decide_eq_false (show ¬ (0:Int)<((filesOf w.Model).length:Int) by omega),bif_f]
 ·obtain ⟨u,c4,u1,u2,hc4,e4⟩:=below_draw (R:=R) 21 (by decide) (by decide) c3 hc3.1
  have b4:=b3.tr hc4
  obtain ⟨dl,d1,d2,d3⟩:=next_l34 (R:=R) hn w.Fs.Mem.Dirty hy
  obtain ⟨o,c5,hc5,e5⟩:=once_draw (R:=R) 6 (by decide) (by decide) c4 hc4.1
  have b5:=b4.tr hc5
  by_cases hz:0<dl.length
  ·cases o with
   | false =>
    obtain ⟨f,c6,f1,f2,hc6,e6⟩:=below_draw (R:=R) (dl.length:Int) (by omega) (by omega) c5 hc5.1
    have b6:=b5.tr hc6
    have hm:=d2 _ (getD_mem 0 (show f.toNat<dl.length by omega))
    refine ⟨_,c6,b6,.back (dl.getD f.toNat 0) hm.1 hm.2,fun k=> ?_⟩
    simp only [s_l17Next]
    rw [e1,start 0,hc1.mk',e2,chk_of inA,hdd,chk_of ok1,b2.mk',e3,chk_of ok2,b3.mk']
    simp only [show ((6:Int)==1)=false from rfl,show ((6:Int)==2)=false from rfl,show ((6:Int)==3)=false from rfl,show ((6:Int)==4)=false from rfl,show ((6:Int)==5)=false from rfl,show ((6:Int)==6)=true from rfl,cond_false,cond_true]
    rw [e4,d3,b4.mk',e5,decide_eq_true (show (0:Int)<(dl.length:Int) by omega)]
    simp only [cond_true,Bool.not_false,Bool.and_self]
    rw [b5.mk',e6,chk_of (by simp only [inR,Bool.and_eq_true,decide_eq_true_eq]; omega),b6.mk']
   | true =>
    refine ⟨_,c5,b5,.back u u1 (by omega),fun k=> ?_⟩
    simp only [s_l17Next]
    rw [e1,start 0,hc1.mk',e2,chk_of inA,hdd,chk_of ok1,b2.mk',e3,chk_of ok2,b3.mk']
    simp only [show ((6:Int)==1)=false from rfl,show ((6:Int)==2)=false from rfl,show ((6:Int)==3)=false from rfl,show ((6:Int)==4)=false from rfl,show ((6:Int)==5)=false from rfl,show ((6:Int)==6)=true from rfl,cond_false,cond_true]
    rw [e4,d3,b4.mk',e5,decide_eq_true (show (0:Int)<(dl.length:Int) by omega)]
    simp only [cond_true,Bool.not_true,Bool.and_false,cond_false]
    rw [b5.mk']
  ·refine ⟨_,c4,b4,.back u u1 (by omega),fun k=> ?_⟩
   simp only [s_l17Next]
   rw [e1,start 0,hc1.mk',e2,chk_of inA,hdd,chk_of ok1,b2.mk',e3,chk_of ok2,b3.mk']
   simp only [show ((6:Int)==1)=false from rfl,show ((6:Int)==2)=false from rfl,show ((6:Int)==3)=false from rfl,show ((6:Int)==4)=false from rfl,show ((6:Int)==5)=false from rfl,show ((6:Int)==6)=true from rfl,cond_false,cond_true]
   rw [e4,d3,b4.mk',e5,decide_eq_false (show ¬ (0:Int)<(dl.length:Int) by omega)]
   simp only [cond_false,Bool.false_and]
   rw [b4.mk']
 ·refine ⟨_,c3,b3,.flush,fun k=> ?_⟩
  simp only [s_l17Next]
  rw [e1,start 0,hc1.mk',e2,chk_of inA,hdd,chk_of ok1,b2.mk',e3,chk_of ok2,b3.mk']; rfl
end Go.Soft
