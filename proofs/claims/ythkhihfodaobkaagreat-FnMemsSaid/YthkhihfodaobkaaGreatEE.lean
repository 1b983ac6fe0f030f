import Derived.Test.YthkhihfodaobkaaGreatED
import Derived.ProofKit
set_option linter.constructorNameAsVariable false
set_option linter.unusedVariables false
set_option linter.unusedSimpArgs false
namespace Go.Soft
open Go
variable {e:Int} {X:List Int} {m:Mem} {d:aa}
theorem UW {b:UInt8} (h:Tg b=true):(b==47)=false:=by
 rw [beq_eq_false_iff_ne]
 rintro rfl
 exact absurd h (by decide)
theorem vX:∀ (x cur rest:List UInt8),(∀ b∈x,(b==47)=false)->oy cur (x++rest)=oy (cur++x) rest
 | [],cur,rest,_=>by simp
 | b::x,cur,rest,h=>by
  rw [List.cons_append]
  simp only [oy,h b zO,zF]
  rw [vX x _ rest fun c hc=>h c (zJ _ hc),List.append_assoc]; rfl
theorem qm {s:ByteArray} (h:bH s=true):∀ b∈s.data.toList,(b==47)=false:=fun b hb=>by
 simp only [bH,zB,List.all_eq_true] at h
 exact UW (h.1 b hb)
def uC (l:List ByteArray):List UInt8:=l.flatMap fun x=>47::x.data.toList
theorem x8:∀ (xs:List ByteArray) (cur:List UInt8),(∀ y∈xs,bH y=true)->oy cur (uC xs)=yW cur::xs
 | [],cur,_=>rfl
 | y::xs,cur,h=>by
  have hy:=h y zO
  show oy cur (47::(y.data.toList++uC xs))=_
  simp only [oy,beq_self_eq_true,zE]
  rw [vX _ _ _ (qm hy),List.nil_append,x8 xs _ fun z hz=>h z (zJ _ hz)]
  rfl
theorem oe (l:List ByteArray):(eO l).data.toList=uC l:=by
 have:∀ (l:List ByteArray) (a:ByteArray),(l.foldl (fun s x=>(s++S [47])++x) a).data.toList=a.data.toList++uC l:=by
  intro l
  induction l with
  | nil=>intro a; simp [uC]
  | cons x l ih =>
   intro a
   rw [List.foldl_cons,ih]
   simp only [ByteArray.data_append,Array.toList_append,uC,List.flatMap_cons,List.append_assoc]
   rfl
 exact this l eS
theorem Bc {l:List ByteArray} (h0:l≠[]) (h:∀ y∈l,bH y=true) (h4:l.length<=4):aN (eO l)=(l,true):=by
 match l,h0 with
 | x::xs,_ =>
  have hx:=h x zO
  have hb:(eO (x::xs)).data.toList=47::(x.data.toList++uC xs):=oe _
  have cL:∃ c t,x.data.toList=c::t:=by
   have:=(eP hx).1
   cases hd:x.data.toList with
   | nil=>rw [size_eq,hd] at this; simp at this
   | cons c t=>exact ⟨c,t,rfl⟩
  obtain ⟨c,t,dg⟩:=cL
  have hs:oy [] (x.data.toList++uC xs)=x::xs:=by
   rw [vX _ _ _ (qm hx),List.nil_append,x8 xs _ fun z hz=>h z (zJ _ hz)]
   rfl
  simp only [aN,hb,beq_self_eq_true,zE]
  rw [dg,List.cons_append] at hs ⊢
  simp only [hs]
  have ha:((x::xs).all bH&&decide ((x::xs).length<=4))=true:=by
   rw [zB,List.all_eq_true,zD]; exact ⟨h,h4⟩
  rw [ha]; rfl
theorem AB:aN (S [47])=([],true):=rfl
theorem gV {p:ByteArray} (h:(ao p).2.2=true):∃ l x,aN p=(l++[x],true)/\aN (ao p).1=(l,true)/\(ao p).2.1=x/\bH x=true/\(∀ y∈l,bH y=true)/\l.length<=3:=by
 simp only [ao] at h ⊢
 cases h2:(aN p).2 with
 | false=>rw [h2] at h; cases h
 | true =>
  obtain ⟨Fz,hlen⟩:=m6 h2
  rw [h2] at h
  generalize hl:(aN p).1=l at *
  cases hz:l.length==0 with
  | true=>rw [hz] at h; cases h
  | false =>
   have h0:l≠[]:=by rintro rfl; cases hz
   have XS:l=l.dropLast++[l.getLast h0]:=(List.dropLast_concat_getLast h0).symm
   rw [List.all_eq_true] at Fz
   have hd:∀ y∈l.dropLast,bH y=true:=fun y hy=>Fz y (List.dropLast_subset _ hy)
   have Ck:l.dropLast.length<=3:=by simp; omega
   refine ⟨l.dropLast,l.getLast h0,?_,?_,?_,Fz _ (List.getLast_mem h0),hd,Ck⟩
   ·rw [← XS,← hl,← h2]
   ·simp only [zM,Bool.false_or,zF]
    by_cases hn:l.dropLast=[]
    ·have:(eO l.dropLast==eS)=true:=by rw [hn]; rfl
     rw [this,zE,hn]; exact AB
    ·have:(eO l.dropLast==eS)=false:=by
      rw [beq_eq_false_iff_ne]; intro q
      have h3:=oe l.dropLast
      rw [q] at h3
      cases Jw:l.dropLast with
      | nil=>exact hn Jw
      | cons a b=>rw [Jw] at h3; cases h3
     rw [this,zF]; exact Bc hn hd (by omega)
   ·simp only [zM,Bool.false_or,zF]
    have hp:0<l.length:=List.length_pos_iff.2 h0
    rw [fc _ _ (by omega:l.length-1<l.length),List.getLast_eq_getElem]
structure Fm (d:aa) (w:Int) (nm:ByteArray) (f:Int×Int×Int):Prop where
 w8:I8 w
 kw:aU d w=2
 ptr:∃ k,aX d w k=f.1
 b:lz f.1
 s:0<=f.2.1/\f.2.1<=3
 sl:cA d f.1 f.2.1.toNat=⟨nm,f.2.2⟩
 i8:I8 f.2.2
theorem Fm.own {w:Int} {nm:ByteArray} {f:Int×Int×Int} (h:Fm d w nm f):m9 d f.1:=by
 obtain ⟨k,hk⟩:=h.ptr
 exact ⟨w,k,h.w8,h.kw,hk⟩
theorem sn {b:Block} {nm:ByteArray} (hn:nm≠eS):(dE b nm= -1/\∀ s,(b.ah.getD s aq).Name≠nm)\/∃ j:Nat,dE b nm=j/\j<b.ah.length/\(b.ah.getD j aq).Name=nm:=by
 have hz:(nm==eS)=false:=beq_eq_false_iff_ne.2 hn
 simp only [dE,hz,zF]
 rcases gF (fun s:Slot=>s.Name==nm) b.ah with h | ⟨j,h,hj⟩
 ·refine .inl ⟨h,fun s=> ?_⟩
  have key:∀ l:List Slot,bE (fun s:Slot=>s.Name==nm) l= -1->∀ x∈l,x.Name≠nm:=by
   intro l
   induction l with
   | nil=>intro _ x hx; cases hx
   | cons y l ih =>
    intro hp x hx
    simp only [bE] at hp
    cases hy:y.Name==nm with
    | true=>rw [hy] at hp; have yy:(0:Int)= -1:=hp; omega
    | false =>
     rw [hy] at hp
     simp only [zF] at hp
     rcases zI.1 hx with rfl | hx
     ·simpa using hy
     ·refine ih ?_ x hx
      rcases gF (fun s:Slot=>s.Name==nm) l with q | ⟨j,q,_⟩
      ·exact q
      ·rw [q] at hp; have yy:((j+1:Nat):Int)= -1:=hp; omega
  by_cases hs:s<b.ah.length
  ·exact key _ h _ (aV aq hs)
  ·rw [zT,List.getElem?_eq_none (Nat.le_of_not_lt hs)]
   exact fun q=>hn q.symm
 ·refine .inr ⟨j,h,hj,?_⟩
  have:=x9 (fun s:Slot=>s.Name==nm) aq _ j h
  simpa using this
theorem vS (T:cE d) {w:Int} {nm:ByteArray} (hn:bH nm=true):(find d w nm=(0,0,0)/\(I8 w->aU d w=2->(∀ k,aX d w k≠0->(aH d (aX d w k)).bZ=true)->∀ k t,aX d w k≠0->(cA d (aX d w k) t).Name≠nm))\/Fm d w nm (find d w nm):=by
 simp only [find,T.di]
 cases hc:within w 1 (8:Nat)&&(ai d w).Kind==2 with
 | false =>
  refine .inl ⟨rfl,fun h8 hk=> ?_⟩
  rw [show within w 1 ((8:Nat):Int)=true from ak.2 ⟨h8.1,h8.2⟩,show (ai d w).Kind=2 from hk] at hc; cases hc
 | true =>
  simp only [zB,ak,beq_iff_eq] at hc
  simp only [zE]
  have key:∀ (l:List Int),(∀ p∈l,p=0\/lz p)->(fZ d nm l=(0,0,0)/\∀ p∈l,p≠0->(aH d p).bZ=true->∀ t,(cA d p t).Name≠nm) \/
    (fZ d nm l).1∈l/\lz (fZ d nm l).1/\(0<=(fZ d nm l).2.1/\(fZ d nm l).2.1<=3)/\cA d (fZ d nm l).1 (fZ d nm l).2.1.toNat=⟨nm,(fZ d nm l).2.2⟩/\I8 (fZ d nm l).2.2:=by
   intro l
   induction l with
   | nil=>intro _; exact .inl ⟨rfl,fun p hp=>by cases hp⟩
   | cons p l ih =>
    intro hl
    have ih:=ih fun q hq=>hl q (zJ _ hq)
    simp only [fZ]
    cases hf:((cP d p).2&&(cP d p).1.bZ)&&decide (0<=dE (cP d p).1 nm) with
    | true =>
     simp only [zB,zD] at hf
     simp only [zE]
     have hw:within p 1 d.ab.length=true:=by
      cases hw:within p 1 d.ab.length with
      | true=>rfl
      | false=>simp only [cP,hw,zF] at hf; exact absurd hf.1.1 (by decide)
     have hb:cP d p=(aH d p,true):=by simp only [cP,hw,zE]
     rw [hb] at hf ⊢
     rw [ak,T.db] at hw
     have hB:lz p:=⟨hw.1,hw.2⟩
     rcases sn (b:=aH d p) (fL hn) with ⟨q,_⟩ | ⟨j,q,hj,Fz⟩
     ·exact absurd hf.2 (by show ¬ 0<=dE (aH d p) nm; rw [q]; decide)
     ·have h4:=dh (T.nz hB.1 hB.2) hf.1.2
      refine .inr ⟨zO,hB,?_,?_,?_⟩
      ·show 0<=dE (aH d p) nm/\dE (aH d p) nm<=3; rw [q]; omega
      ·show cA d p (dE (aH d p) nm).toNat=⟨nm,((aH d p).ah.getD (dE (aH d p) nm).toNat aq).Ino⟩
       rw [q,zC,← Fz]; rfl
      ·show I8 ((aH d p).ah.getD (dE (aH d p) nm).toNat aq).Ino
       rw [q,zC]
       rcases T.vQ hB j with z | z
       ·have z':(aH d p).ah.getD j aq=aq:=z
        rw [z'] at Fz; exact absurd Fz.symm (fL hn)
       ·exact z.2.2.2
    | false =>
     simp only [zF]
     rcases ih with ⟨h1,h2⟩ | ⟨h1,h2⟩
     ·refine .inl ⟨h1,fun q hq Wx hqd t=> ?_⟩
      rcases zI.1 hq with rfl | hq
      ·have hB:=(hl q zO).resolve_left Wx
       have hw:within q 1 d.ab.length=true:=by rw [ak,T.db]; exact ⟨hB.1,hB.2⟩
       have hb:cP d q=(aH d q,true):=by simp only [cP,hw,zE]
       rw [hb] at hf
       simp only [hqd,Bool.true_and,decide_eq_false_iff_not] at hf
       rcases sn (b:=aH d q) (fL hn) with ⟨_,z⟩ | ⟨j,z,_⟩
       ·exact z t
       ·rw [z] at hf; omega
      ·exact h2 q hq Wx hqd t
     ·exact .inr ⟨zJ _ h1,h2⟩
  have Hy:I8 w:=⟨hc.1.1,hc.1.2⟩
  have hP:∀ p∈(ai d w).ax,p=0\/lz p:=fun p hp=>by
   by_cases h0:p=0
   ·exact .inl h0
   ·obtain ⟨k,hk⟩:=(mB h0).1 hp
    have uy:aX d w k=p:=hk
    exact .inr (uy▸T.gX Hy (by rw [uy]; exact h0))
  rcases key _ hP with ⟨h1,h2⟩ | ⟨h1,h2,h3,h4,h5⟩
  ·refine .inl ⟨h1,fun _ _ hd k t h0=> ?_⟩
   exact h2 (aX d w k) ((mB h0).2 ⟨k,rfl⟩) h0 (hd k h0) t
  ·refine .inr ⟨Hy,hc.2,?_,h2,h3,h4,h5⟩
   exact (mB (by obtain ⟨a,b⟩:=h2; omega)).1 h1
theorem uH (x:ByteArray):∀ (l:List ByteArray) (i:Int),cz d i (l++[x])=bif within (find d (cz d i l) x).2.2 1 d.ad.length then (find d (cz d i l) x).2.2 else 0
 | [],i=>rfl
 | y::l,i=>by
  rw [List.cons_append]
  simp only [cz]
  cases within (find d i y).2.2 1 d.ad.length with
  | true=>exact uH x l _
  | false =>
   simp only [zF]
   have:find d 0 x=(0,0,0):=by simp only [find]; rw [show within 0 1 d.ad.length=false by simp [within]]; rfl
   rw [this,show within (0,0,0).2.2 1 d.ad.length=false by simp [within]]; rfl
theorem DY (T:cE d) (g:DG d):∀ (l:List ByteArray) (i:Int),(∀ y∈l,bH y=true)->I8 i->(i=1\/kW d i≠0)->aU d i≠0->cz d i l=0\/(I8 (cz d i l)/\(cz d i l=1\/kW d (cz d i l)≠0)/\aU d (cz d i l)≠0/\∀ r,RK d r->aU d (cz d i l)=2->r (cz d i l)=r i+l.length/\aU d i=2)
 | [],i,_,hi,hc,hk=> .inr ⟨hi,hc,hk,fun r _ h2=>⟨rfl,h2⟩⟩
 | x::l,i,hl,hi,hc,hk=>by
  simp only [cz,T.di]
  rcases vS T (w:=i) (hl x zO) with ⟨h1,_⟩ | F
  ·rw [h1,show within (0,0,0).2.2 1 (8:Nat)=false by simp [within]]; exact .inl rfl
  ·have h8:=F.i8
   have hS:=F.sl
   have hB:=F.b
   have hO:=F.own
   obtain ⟨kk,iV⟩:=F.ptr
   generalize find d i x=f at *
   rw [show within f.2.2 1 ((8:Nat):Int)=true from ak.2 ⟨h8.1,h8.2⟩,zE]
   have QO:f.2.2≠0:=by obtain ⟨a,b⟩:=h8; omega
   have hI:(cA d f.1 f.2.1.toNat).Ino=f.2.2:=by rw [hS]
   have Fz:=g.nm f.1 f.2.1.toNat hB hO (by rw [hI]; exact QO)
   rw [hI] at Fz
   have hcn:kW d f.2.2≠0:=fun z=>(T.FV QO).1 z f.1 f.2.1.toNat hB hO hI
   rcases DY T g l f.2.2 (fun y hy=>hl y (zJ _ hy)) h8 (.inr hcn) Fz.1 with q | ⟨q1,q2,q3,q4⟩
   ·exact .inl q
   ·refine .inr ⟨q1,q2,q3,fun r hr h2=> ?_⟩
    obtain ⟨q5,q6⟩:=q4 r hr h2
    have Ws:f.1≠0:=by obtain ⟨a,b⟩:=hB; omega
    have:=hr.2 i kk f.2.1.toNat hi F.kw (by rw [iV]; exact Ws)
    rw [iV,hI] at this
    have:=(this QO q6).1
    exact ⟨by rw [q5,this,zR]; omega,F.kw⟩
def ly (l:List bO):Nat:=l.countP fun d=>d.Kind==4
structure j0 (m:Mem):Prop where
 g:Gd 0 [] m
 len:m.ae.length<=36
 S4:m.Next+ly m.ae<=99100
theorem RJ (l:List bO):ly l<=l.length:=List.countP_le_length
theorem j0.of (g:Gd 0 [] m) (h1:m.ae.length<=36) (h2:m.Next<=99064):j0 m:=⟨g,h1,by have:=RJ m.ae; omega⟩
theorem sx:room m=true↔m.ae.length<=32/\m.Next<=99000:=by
 simp only [room,zB,zD]; omega
theorem A7 (m:Mem) (x:bO):(dz m x).1.ae.length<=m.ae.length+1/\(dz m x).1.Next<=m.Next+1:=by
 simp only [dz]
 cases fv m with
 | false=>exact ⟨by simp,by simp only [zF]; omega⟩
 | true=>simp
theorem Gk (i:Int) (m:Mem):(iC i m).ae.length<=m.ae.length+1/\(iC i m).Next<=m.Next+1:=by
 simp only [iC]
 cases decide (40<=(m.ae.length:Int))|| !within m.Next 1 99999 with
 | true=>exact ⟨by simp,by simp only [zE]; omega⟩
 | false =>
  simp only [zF]
  cases decide (0<(gB (ai m.aa i)).Links)||((gB (ai m.aa i)).Kind==0) with
  | true=>exact ⟨by simp,by simp only [zE]; omega⟩
  | false =>
   simp only [zF]
   have:=A7 ⟨aP m.aa i (aY 0),bP (aK i) m.an,m.ae.filter (stays i),m.Next⟩ ⟨0,5,i,0,0,0,eS,false,false,0,(ai m.aa i).ax.filter fun p=>decide (0<p)⟩
   exact ⟨Nat.le_trans this.1 (Nat.succ_le_succ (List.length_filter_le _ _)),this.2⟩
theorem Dx (id b:Int) (m:Mem):(shown id b m).ae.length<=m.ae.length:=by
 simp only [shown,List.length_map]; exact List.length_filter_le _ _
theorem wL (m:Mem) (p s b:Int):(eC m p s b).ae.length<=m.ae.length+1/\(eC m p s b).Next<=m.Next+1:=by
 simp only [eC]
 cases (iq m (fQ m p s)==2)||(iq m (fQ m p s)==3) with
 | true =>
  simp only [zE]
  have:=Gk (pN m p s).Ino (shown (fQ m p s) b (nq m p s))
  have h2:=Dx (fQ m p s) b (nq m p s)
  exact ⟨Nat.le_trans this.1 (Nat.succ_le_succ h2),this.2⟩
 | false=>exact A7 _ _
theorem Gd.WV (h:Gd e [] m) (hr:(aQ m).2≠0):Gd e [] (aQ m).1/\I8 (aQ m).2/\CA m.aa (aQ m).2=false/\CA (aQ m).1.aa (aQ m).2=true /\
  (aQ m).1.ae=m.ae/\(aQ m).1.Next=m.Next/\(aQ m).1.aa.ad=m.aa.ad/\(aQ m).1.aa.ab=m.aa.ab:=by
 have T:=h.T'
 revert hr
 simp only [aQ]
 cases hz:firstFree m.aa.au.bB==0 with
 | true=>intro hr; exact absurd rfl hr
 | false =>
  intro _
  simp only [zF,ql]
  rcases n7 m.aa.au.bB with ⟨h1,_⟩ | ⟨j,h1,h2,h3,_⟩
  ·rw [h1] at hz; cases hz
  ·have hb:=T.bi
   rw [hb] at h2
   have hj:((firstFree m.aa.au.bB)-1).toNat=j:=by omega
   have hB:I8 (firstFree m.aa.au.bB):=⟨by omega,by omega⟩
   have hg:=h.bits (bb:=m.aa.au.ab) (bi:=m.aa.au.bB.set (firstFree m.aa.au.bB-1).toNat true) T.bb (List.length_set.trans hb) (fun _ _ hh=>hh) (fun p hp hh=>by
    rw [cF]; split
    ·rfl
    ·exact hh)
   refine ⟨hg.bG ((cK _ _).trans h.R.dy),hB,by simp only [CA,hj]; exact h3,?_,trivial,trivial,trivial,trivial⟩
   simp only [CA,cF]
   rw [if_pos ⟨trivial,by omega⟩]
theorem Ox (T:cE d) {i k:Int} (hi:I8 i) (hk:k=1\/k=2) (h0:aU d i=0):(∀ j,I8 j->aU (aP d i (aY k)) j=if j=i then k else aU d j)/\(∀ j kk,I8 j->aX (aP d i (aY k)) j kk=aX d j kk) /\
  (∀ j,kW (aP d i (aY k)) j=kW d j)/\(∀ kk,aX d i kk=0)/\∀ p,p≠0->(m9 (aP d i (aY k)) p↔m9 d p):=by
 have hN:aY k=⟨k,1,[0,0]⟩:=by rcases hk with rfl | rfl<;>rfl
 have hz:∀ kk,([0,0]:List Int).getD kk 0=0:=fun kk=>by
  match kk with
  | 0=>rfl
  | 1=>rfl
  | n+2=>rfl
 have hold:∀ kk,aX d i kk=0:=fun kk=>by
  have h1:=T.sF hi.1 hi.2
  simp only [bj,zB,List.all_eq_true] at h1
  by_cases fP:kk<(ai d i).ax.length
  ·have:=(h1.2.2.2.1 _ (aV 0 fP)).2
   have h2:(ai d i).Kind=0:=h0
   rw [h2] at this
   have h3:((ai d i).ax.getD kk 0==0)=true:=this
   exact beq_iff_eq.1 h3
  ·simp [aX,zT,List.getElem?_eq_none (Nat.le_of_not_lt fP)]
 rw [hN]
 have iV:=fun {j} (hj:I8 j)=>dB T.di hi hj ⟨k,1,[0,0]⟩
 have ng:∀ j kk,I8 j->aX (aP d i ⟨k,1,[0,0]⟩) j kk=aX d j kk:=fun j kk hj=>by
  rw [eN T.di hi hj]; split
  ·next hh=>rw [hh,hold,hz]
  ·rfl
 have hO:∀ p,p≠0->(m9 (aP d i ⟨k,1,[0,0]⟩) p↔m9 d p):=fun p hp=>by
  constructor
  ·rintro ⟨j,kk,hj,a,b⟩
   rw [ng _ _ hj] at b; rw [iV hj] at a
   by_cases hh:j=i
   ·subst hh; rw [hold] at b; exact absurd b.symm hp
   ·rw [if_neg hh] at a; exact ⟨j,kk,hj,a,b⟩
  ·rintro ⟨j,kk,hj,a,b⟩
   have hh:j≠i:=fun hh=>by subst hh; rw [hold] at b; exact hp b.symm
   exact ⟨j,kk,hj,by rw [iV hj,if_neg hh]; exact a,by rw [ng _ _ hj]; exact b⟩
 have h8:(aP d i ⟨k,1,[0,0]⟩).ad.length=8:=List.length_set.trans T.di
 refine ⟨fun j hj=>iV hj,ng,fun j=>nN fun p hp=> ?_,hold,hO⟩
 have lG:p≠0:=by obtain ⟨a,b⟩:=hp; omega
 simp only [jW]
 rw [xN T.di h8 lG (hO p lG)]; rfl
theorem xY (h:Gd 0 [] m) {p:ByteArray} (hs:(ao p).2.2=true) (h0:aD m.aa p=0) (hw:aD m.aa (ao p).1≠0) (hk:aU m.aa (aD m.aa (ao p).1)=2) :
  I8 (aD m.aa (ao p).1)/\bH (ao p).2.1=true/\(aD m.aa (ao p).1=1\/kW m.aa (aD m.aa (ao p).1)≠0) /\
  (∀ l t,aX m.aa (aD m.aa (ao p).1) l≠0->(cA m.aa (aX m.aa (aD m.aa (ao p).1) l) t).Name≠(ao p).2.1)/\∀ r,RK m.aa r->r (aD m.aa (ao p).1)<4:=by
 have T:=h.T'
 obtain ⟨l,x,e1,e2,e3,hx,hl,hl3⟩:=gV hs
 have ed:aD m.aa (ao p).1=cz m.aa 1 l:=by simp only [aD,e2,zE]
 have ep:aD m.aa p=bif within (find m.aa (cz m.aa 1 l) x).2.2 1 m.aa.ad.length then (find m.aa (cz m.aa 1 l) x).2.2 else 0:=by
  simp only [aD,e1,zE]; exact uH x l 1
 rw [ed] at hw hk ⊢
 rw [e3]
 have Wt:aU m.aa 1≠0:=by rw [h.g.rt]; decide
 obtain ⟨q1,q2,q3,q4⟩:=(DY T h.g l 1 hl ⟨by decide,by decide⟩ (.inl rfl) Wt).resolve_left hw
 refine ⟨q1,hx,q2,?_,fun r hr=> ?_⟩
 ·rcases vS T (w:=cz m.aa 1 l) hx with ⟨f1,f2⟩ | F
  ·exact f2 q1 hk fun k QE=>(h.g.pk _ k q1 QE).2 hk
  ·have h8:=F.i8
   rw [ep,T.di,show within (find m.aa (cz m.aa 1 l) x).2.2 1 ((8:Nat):Int)=true from ak.2 ⟨h8.1,h8.2⟩,zE] at h0
   obtain ⟨a,b⟩:=h8; omega
 ·have:=(q4 r hr hk).1
  rw [hr.1] at this; omega
theorem j0.make (h:j0 m) (p:ByteArray) (kind:Int):j0 (eT m p kind).1:=by
 have T:=h.g.T'
 simp only [eT]
 cases hc:((!fe m)||(!(ao p).2.2))||((!(kind==1))&&(!(kind==2))) with
 | true=>exact h
 | false =>
 cases cf: !(aD m.aa p==0) with
 | true=>exact h
 | false =>
 cases fJ:aD m.aa (ao p).1==0 with
 | true=>exact h
 | false =>
 cases ja: !((ai m.aa (aD m.aa (ao p).1)).Kind==2) with
 | true=>exact h
 | false =>
 cases vJ:waits m (aD m.aa (ao p).1) (ao p).2.1 with
 | true=>exact h
 | false =>
 cases zt:((aQ m).2==0)||(!room (aQ m).1) with
 | true=>exact h
 | false =>
 simp only [zF]
 cases K0:(dK (jj (aQ m) kind) (aD m.aa (ao p).1) (ao p).2.1 (aQ m).2).2==0 with
 | true=>exact h
 | false =>
 simp only [zF]
 simp only [Bool.or_eq_false_iff,Bool.not_eq_false',beq_eq_false_iff_ne,beq_iff_eq,Bool.and_eq_false_iff] at hc cf fJ ja zt
 have hk:kind=1\/kind=2:=hc.2
 obtain ⟨w1,w2,w3,w4,w5⟩:=xY h.g hc.1.2 cf fJ ja
 obtain ⟨g1,i8,b0,b1,t1,t2,t3,t4⟩:=h.g.WV zt.1
 have zd:=sx.1 zt.2
 rw [t1,t2] at zd
 have QE:aU m.aa (aQ m).2=0:=Decidable.byContradiction fun z=>by
  have:=h.g.g.Nb _ i8 z
  rw [b0] at this; cases this
 have Ya:aU (aQ m).1.aa (aQ m).2=0:=by simp only [aU,ai,t3]; exact QE
 have hgl:=g1.jj i8 hk Ya b1 fun x hx h5 hh=>by
  rw [t1] at hx
  have:=(h.g.fr x hx h5).2.1
  rw [hh,b0] at this; cases this
 have acC:=hgl.bG (y:=bP (aK (aQ m).2) (aQ m).1.an) ((cK _ _).trans g1.R.dy)
 have cL:aD m.aa (ao p).1≠(aQ m).2:=fun z=>by
  have h2:aU m.aa (aD m.aa (ao p).1)=2:=ja
  rw [z,QE] at h2; exact absurd h2 (by decide)
 have T1:=g1.T'
 obtain ⟨l1,l2,l3,l4,l5⟩:=Ox T1 i8 hk Ya
 have ek:∀ i,aU (aQ m).1.aa i=aU m.aa i:=fun i=>by simp only [aU,ai,t3]
 have ep:∀ i k,aX (aQ m).1.aa i k=aX m.aa i k:=fun i k=>by simp only [aX,ai,t3]
 have es:∀ q u,cA (aQ m).1.aa q u=cA m.aa q u:=fun q u=>by simp only [cA,aH,t4]
 have ec:∀ i,kW (aQ m).1.aa i=kW m.aa i:=oi T.di T1.di (fun i _=>ek i) (fun i k _=>ep i k) t4
 have JD:(aQ m).2≠0:=by obtain ⟨a,b⟩:=i8; omega
 have c0:∀ p s,lz p->m9 m.aa p->(cA m.aa p s).Ino≠(aQ m).2:=fun p s hp ho he=>by
  have:=(h.g.g.nm p s hp ho (by rw [he]; exact JD)).1
  rw [he] at this; exact this QE
 have hI:LC (jj (aQ m) kind) (aD m.aa (ao p).1) (ao p).2.1 (aQ m).2:=by
  refine ⟨w1,?_,w2,i8,?_,?_,fun _=>⟨?_,?_,?_⟩⟩
  ·show aU (aP (aQ m).1.aa (aQ m).2 (aY kind)) _=2
   rw [l1 _ w1,if_neg cL,ek]; exact ja
  ·rcases w3 with z | z
   ·exact .inl z
   ·refine .inr ?_
    show kW (aP (aQ m).1.aa (aQ m).2 (aY kind)) _≠0
    rw [l3,ec]; exact z
  ·intro l t
   show aX (aP (aQ m).1.aa (aQ m).2 (aY kind)) _ l≠0->(cA (aQ m).1.aa (aX (aP (aQ m).1.aa (aQ m).2 (aY kind)) _ l) t).Name≠_
   rw [l2 _ _ w1,ep,es]; exact w4 l t
  ·intro k
   show aX (aP (aQ m).1.aa (aQ m).2 (aY kind)) _ k=0
   rw [l2 _ _ i8]; exact l4 k
  ·show kW (aP (aQ m).1.aa (aQ m).2 (aY kind)) _=0
   rw [l3,ec]; exact (T.FV JD).2 c0
  ·intro r hr
   refine w5 r ⟨hr.1,fun a k s ha hb hz hd he=> ?_⟩
   have Nk:a≠(aQ m).2:=fun z=>by rw [z,QE] at hb; exact absurd hb (by decide)
   have:=hr.2 a k s ha
   have e1:aU (jj (aQ m) kind).aa a=2:=by
    show aU (aP (aQ m).1.aa (aQ m).2 (aY kind)) _=2
    rw [l1 _ ha,if_neg Nk,ek]; exact hb
   have e2:aX (jj (aQ m) kind).aa a k=aX m.aa a k:=by
    show aX (aP (aQ m).1.aa (aQ m).2 (aY kind)) _ k=_
    rw [l2 _ _ ha,ep]
   have e3:∀ q u,cA (jj (aQ m) kind).aa q u=cA m.aa q u:=fun q u=>es q u
   rw [e2,e3] at this
   refine this e1 hz hd ?_
   show aU (aP (aQ m).1.aa (aQ m).2 (aY kind)) _=2
   rw [l1 _ (T.CO (T.gX ha hz) hd),if_neg (c0 _ s (T.gX ha hz) ⟨a,k,ha,hb,rfl⟩),ek]; exact he
 have SU:(jj (aQ m) kind).ae.length=m.ae.length:=by show (aQ m).1.ae.length=_; rw [t1]
 have Zj:(jj (aQ m) kind).Next=m.Next:=t2
 have P:=(qF (m:=jj (aQ m) kind) acC (by rw [SU]; omega) (by rw [Zj]; omega) hI).resolve_left (by simpa using K0)
 have p1:=P.len
 have p2:=P.nx
 rw [SU] at p1; rw [Zj] at p2
 exact j0.of P.g (by omega) (by omega)
theorem j0.text (h:j0 m) (p:ByteArray) (x:Int) (s:ByteArray):j0 (jH m p x s).1:=by
 have T:=h.g.T'
 have uU:=h.g.R.n1
 simp only [jH]
 cases hc:(((!fe m)||(!(aN p).2))||(!within x 0 1))||(decide (16<(s.size:Int))) with
 | true=>exact h
 | false =>
 cases cf:aD m.aa p==0 with
 | true=>exact h
 | false =>
 cases fJ: !((ai m.aa (aD m.aa p)).Kind==1) with
 | true=>exact h
 | false =>
 simp only [zF]
 simp only [Bool.or_eq_false_iff,Bool.not_eq_false',beq_eq_false_iff_ne,beq_iff_eq,decide_eq_false_iff_not,ak] at hc cf fJ
 have w8:I8 (aD m.aa p):=((ln T.di p).resolve_left cf)
 have hk:aU m.aa (aD m.aa p)=1:=fJ
 have mn:s.size<=16:=by have:=hc.2; omega
 generalize aD m.aa p=w at *
 have hx:=hc.1.2
 cases hb:(ai m.aa w).ax.getD x.toNat 0==0 with
 | false =>
  simp only [zF]
  have VJ:aX m.aa w x.toNat≠0:=by simpa [aX] using hb
  exact ⟨(h.g.text w8 hk rfl VJ mn).bG ((cK _ _).trans h.g.R.dy),h.len,h.S4⟩
 | true =>
  simp only [zE]
  cases ja:((aW m).2==0)||(!room m) with
  | true=>exact h
  | false =>
  simp only [zF]
  simp only [Bool.or_eq_false_iff,Bool.not_eq_false',beq_eq_false_iff_ne] at ja
  have zd:=sx.1 ja.2
  obtain ⟨g1,F,HA⟩:=h.g.take ja.1
  obtain ⟨t1,t2,t3,t4⟩:=sr m
  generalize aW m=t at *
  have VJ:aX m.aa w x.toNat=0:=beq_iff_eq.1 hb
  have ek:aU t.1.aa w=1:=by simp only [aU,ai,t3]; exact hk
  have ep:aX t.1.aa w x.toNat=0:=by simp only [aX,ai,t3]; exact VJ
  have hmp:fv t.1=true:=cV.2 ⟨by rw [t1]; omega,by rw [t2]; omega,by rw [t2]; omega⟩
  have zp:=g1.grow hmp w8 (by rw [ek]; decide) (x:=x.toNat) (by omega) ep F.b HA F.p F.f F.n (b:=⟨false,[],s⟩) (by simp only [bw,zF]; simp [mn]) (by rw [ek]; simp) (fun s=>rfl)
  have Uc:((x.toNat:Nat):Int)=x:=Int.toNat_of_nonneg hx.1
  have pO:pB (sR t w x) t.2 s=⟨(kg t.1 w x.toNat t.2 ⟨false,[],s⟩).aa,bP (aE t.2) (bP (aK w) t.1.an),(kg t.1 w x.toNat t.2 ⟨false,[],s⟩).ae,t.1.Next+1⟩:=by
   have:=kB (m:=⟨aP t.1.aa w (gL (ai t.1.aa w) x.toNat t.2),bP (aK w) t.1.an,t.1.ae,t.1.Next⟩) hmp ⟨0,1,w,x,t.2,0,eS,false,false,0,[]⟩
   simp only [sR,this,pB,kg,Uc]; rfl
  rw [pO]
  have hgg:=zp.bG (y:=bP (aE t.2) (bP (aK w) t.1.an)) ((cK _ _).trans ((cK _ _).trans g1.R.dy))
  refine j0.of hgg ?_ ?_
  ·show (t.1.ae++[_]).length<=36
   rw [zK,zL,t1]; omega
  ·show t.1.Next+1<=_; rw [t2]; omega
theorem Jc (T:cE d) (g:DG d) {j:Int} (hj:I8 j) (h:o0 d j=[]):∀ k t,aU d j=2->aX d j k≠0->(cA d (aX d j k) t).Ino=0:=by
 intro k t hk h0
 have hB:=T.gX hj h0
 have hd:=(g.pk j k hj h0).2 hk
 simp only [o0,T.di,show within j 1 ((8:Nat):Int)=true from ak.2 ⟨hj.1,hj.2⟩,show (ai d j).Kind=2 from hk,Bool.true_and,beq_self_eq_true,zE,List.flatMap_eq_nil_iff] at h
 have h1:=h (aX d j k) ((mB h0).2 ⟨k,rfl⟩)
 have hb:cP d (aX d j k)=(aH d (aX d j k),true):=by
  simp only [cP,T.db,show within (aX d j k) 1 ((16:Nat):Int)=true from ak.2 ⟨hB.1,hB.2⟩,zE]
 rw [hb] at h1
 simp only [o5,hd,zE,List.map_eq_nil_iff,List.filter_eq_nil_iff] at h1
 rcases T.vQ hB t with z | z
 ·rw [z]; rfl
 ·have h4:=dh (T.nz hB.1 hB.2) z.2.1
  have:=h1 (cA d (aX d j k) t) (aV aq (by omega))
  have h5:(cA d (aX d j k) t).Name=eS:=by simpa using this
  exact absurd h5 (fL z.2.2.1)
theorem j0.remove (h:j0 m) (p:ByteArray):j0 (ir m p).1:=by
 have T:=h.g.T'
 have uU:=h.g.R.n1
 simp only [ir]
 cases hc:(!fe m)||(!(ao p).2.2) with
 | true=>exact h
 | false =>
 simp only [Bool.or_eq_false_iff,Bool.not_eq_false'] at hc
 simp only [zF,r7]
 obtain ⟨l,x,e1,e2,e3,hx,hl,hl3⟩:=gV hc.2
 rw [e3]
 cases cf:(find m.aa (aD m.aa (ao p).1) x).2.2==0 with
 | true=>exact h
 | false =>
 have F:=(vS T (w:=aD m.aa (ao p).1) hx).resolve_left (fun z=>by rw [z.1] at cf; cases cf)
 generalize find m.aa (aD m.aa (ao p).1) x=f at *
 simp only [zF]
 cases fJ:((decide (0<((o0 m.aa f.2.2).length:Int)))||(((ai m.aa f.2.2).Kind==2)&&held m f.2.2))||(!room m) with
 | true=>exact h
 | false =>
 simp only [zF]
 simp only [Bool.or_eq_false_iff,Bool.not_eq_false',decide_eq_false_iff_not] at fJ
 have zd:=sx.1 fJ.2
 have Zj:o0 m.aa f.2.2=[]:=List.length_eq_zero_iff.1 (by have:=fJ.1.1; omega)
 have hI:(cA m.aa f.1 f.2.1.toNat).Ino=f.2.2:=by rw [F.sl]
 have MJ:=F.i8
 have QO:(cA m.aa f.1 f.2.1.toNat).Ino≠0:=by rw [hI]; obtain ⟨a,b⟩:=MJ; omega
 have hg:=h.g.eC (cV.2 ⟨by omega,uU,by omega⟩) F.b F.own F.s.1 F.s.2 QO (by rw [hI]; exact Jc T h.g.g MJ Zj) (b:=0) (.inl rfl)
 have SU:=wL m f.1 f.2.1 0
 exact j0.of hg (by omega) (by omega)
theorem j0.move (h:j0 m) (p q:ByteArray):j0 (jl m p q).1:=by
 have T:=h.g.T'
 have uU:=h.g.R.n1
 simp only [jl]
 cases hc:((!fe m)||(!(ao p).2.2))||(!(ao q).2.2) with
 | true=>exact h
 | false =>
 simp only [Bool.or_eq_false_iff,Bool.not_eq_false'] at hc
 simp only [zF,xP]
 obtain ⟨l,x,e1,e2,e3,hx,hl,hl3⟩:=gV hc.1.2
 rw [e3]
 cases cf:((find m.aa (aD m.aa (ao p).1) x).2.2==0)||(aD m.aa (ao q).1==0) with
 | true=>exact h
 | false =>
 simp only [Bool.or_eq_false_iff] at cf
 have F:=(vS T (w:=aD m.aa (ao p).1) hx).resolve_left (fun z=>by rw [z.1] at cf; exact absurd cf.1 (by decide))
 generalize find m.aa (aD m.aa (ao p).1) x=f at *
 simp only [zF]
 cases fJ:(!((ai m.aa f.2.2).Kind==1))||(!((ai m.aa (aD m.aa (ao q).1)).Kind==2)) with
 | true=>exact h
 | false =>
 simp only [zF]
 cases ja: !(aD m.aa q==0) with
 | true=>exact h
 | false =>
 simp only [zF]
 cases vJ:waits m (aD m.aa (ao q).1) (ao q).2.1||deep m (ao q).1 with
 | true=>exact h
 | false =>
 simp only [zF]
 cases zt: !room m with
 | true=>exact h
 | false =>
 simp only [zF]
 cases K0:decide (200<=(ai m.aa f.2.2).Links) with
 | true=>exact h
 | false =>
 simp only [zF,EL]
 cases Wy:(dK (cX m f.2.2) (aD m.aa (ao q).1) (ao q).2.1 f.2.2).2==0 with
 | true=>exact h
 | false =>
 simp only [zF]
 simp only [Bool.or_eq_false_iff,Bool.not_eq_false',beq_eq_false_iff_ne,beq_iff_eq,decide_eq_false_iff_not] at cf fJ ja vJ zt K0 Wy
 have zd:=sx.1 zt
 obtain ⟨w1,w2,w3,w4,w5⟩:=xY h.g hc.2 ja cf.2 fJ.2
 have MJ:=F.i8
 have vN:aU m.aa f.2.2=1:=fJ.1
 have hgm:=h.g.Pb MJ vN (by show (ai m.aa f.2.2).Links<200; omega)
 have MM:=hgm.bG (y:=bP (aK f.2.2) m.an) ((cK _ _).trans h.g.R.dy)
 have ek:∀ i,I8 i->aU (cX m f.2.2).aa i=aU m.aa i:=fun i hi=>by
  show aU (aP m.aa f.2.2 _) i=_
  rw [dB T.di MJ hi]; split
  ·next z=>rw [z]; rfl
  ·rfl
 have ep:∀ i k,I8 i->aX (cX m f.2.2).aa i k=aX m.aa i k:=fun i k hi=>by
  show aX (aP m.aa f.2.2 _) i k=_
  rw [eN T.di MJ hi]; split
  ·next z=>rw [z]; rfl
  ·rfl
 have es:∀ q u,cA (cX m f.2.2).aa q u=cA m.aa q u:=fun q u=>rfl
 have eo:=n6 ek ep
 have ec:=oi T.di (MM.T'.di) ek ep rfl
 have Tk:LC (cX m f.2.2) (aD m.aa (ao q).1) (ao q).2.1 f.2.2:=by
  refine ⟨w1,by rw [ek _ w1]; exact fJ.2,w2,MJ,?_,?_,fun z=>by rw [ek _ MJ,vN] at z; exact absurd z (by decide)⟩
  ·rcases w3 with z | z
   ·exact .inl z
   ·exact .inr (by show kW (cX m f.2.2).aa _≠0; rw [show kW (cX m f.2.2).aa _=kW m.aa _ from ec _]; exact z)
  ·intro l t; rw [ep _ _ w1,es]; exact w4 l t
 have P:=(qF (m:=cX m f.2.2) MM (by show m.ae.length<=38; omega) (by show m.Next<=99998; omega) Tk).resolve_left Wy
 generalize dK (cX m f.2.2) (aD m.aa (ao q).1) (ao q).2.1 f.2.2=t at *
 have hI:(cA m.aa f.1 f.2.1.toNat).Ino=f.2.2:=by rw [F.sl]
 have VV:f.2.2≠0:=by obtain ⟨a,b⟩:=MJ; omega
 have ho:=F.own
 have hB:=F.b
 have Ws:f.1≠0:=by obtain ⟨a,b⟩:=hB; omega
 have SO:m9 (cX m f.2.2).aa f.1:=(eo _).2 ho
 have hs1:cA t.1.aa f.1 f.2.1.toNat=cA m.aa f.1 f.2.1.toNat:=P.same _ _ hB SO (by rw [es,hI]; exact VV)
 have Nn:(cA t.1.aa f.1 f.2.1.toNat).Ino=f.2.2:=by rw [hs1,hI]
 obtain ⟨dp,ds,Wq,hd2,MZ⟩:=P.dep
 have hl1:=P.len
 have MF:=P.nx
 have afa:t.1.ae.length<=m.ae.length+2:=hl1
 have agc:t.1.Next<=m.Next+2:=MF
 have hg:=P.g.eC (cV.2 ⟨by omega,P.g.R.n1,by omega⟩) hB (P.own _ Ws SO) F.s.1 F.s.2 (by rw [Nn]; exact VV) (by
  rw [Nn]; intro k u z; rw [P.kind _ MJ,ek _ MJ,vN] at z; exact absurd z (by decide)) (b:=t.2) (.inr ⟨_,Wq,rfl,.inl rfl,by rw [Nn]; rfl,fun z=>by
   rcases vi P.g.R f.1 f.2.1 with ⟨z1,_⟩ | ⟨y,hy,z1,z2,z3,z4,_⟩
   ·rw [z1] at z
    have:=(ey (P.g.R.num _ Wq)).1.1
    have this':1<=t.2:=this
    omega
   ·have:=pF P.g.R.ids Wq hy (z.trans z4)
    rw [← this] at z2 z3
    have z2':dp=f.1:=z2
    have z3':ds=f.2.1:=z3
    have:=MZ (by rw [z2']; exact SO)
    rw [z2',z3',es,F.sl] at this
    exact VV (congrArg Slot.Ino this)⟩)
 have SU:=wL t.1 f.1 f.2.1 t.2
 exact j0.of hg (by omega) (by omega)
theorem LM (h:fy m) {z:bO} (hz:z∈m.ae) (h4:z.Kind=4):ly (bd m z.Id).ae+1=ly m.ae:=by
 have:=qs h.ids hz (fun d=>d.Kind==4)
 rw [h4] at this; exact this
theorem F7 (h:fy m) {z:bO} (hz:z∈m.ae):(bd m z.Id).ae.length+1=m.ae.length:=by
 have:=qs h.ids hz (fun _=>true)
 simp only [zE,List.countP_true] at this; exact this
theorem Ms (i:Int) (m:Mem):ly (iC i m).ae=ly m.ae:=by
 simp only [iC]
 cases decide (40<=(m.ae.length:Int))|| !within m.Next 1 99999 with
 | true=>rfl
 | false =>
  simp only [zF]
  cases decide (0<(gB (ai m.aa i)).Links)||((gB (ai m.aa i)).Kind==0) with
  | true=>rfl
  | false =>
   have hf:ly (m.ae.filter (stays i))=ly m.ae:=by
    simp only [ly,List.countP_filter]
    apply List.countP_congr
    intro d _
    by_cases h4:d.Kind=4
    ·simp [h4,stays]
    ·simp [h4]
   simp only [zF,dz]
   cases fv ⟨aP m.aa i (aY 0),bP (aK i) m.an,m.ae.filter (stays i),m.Next⟩ with
   | false=>exact hf
   | true =>
    simp only [zE,ly,List.countP_append,List.countP_singleton]
    exact hf
theorem Bb {i:Int} {y:bO} (hy:y∈m.ae) (h1:y.Kind≠1) (h6:y.Kind≠6):y∈(iC i m).ae:=by
 have pO:stays i y=true:=by simp only [stays]; rw [beq_eq_false_iff_ne.2 h1,beq_eq_false_iff_ne.2 h6]; rfl
 simp only [iC]
 cases decide (40<=(m.ae.length:Int))|| !within m.Next 1 99999 with
 | true=>exact hy
 | false =>
  simp only [zF]
  cases decide (0<(gB (ai m.aa i)).Links)||((gB (ai m.aa i)).Kind==0) with
  | true=>exact hy
  | false =>
   have hf:y∈m.ae.filter (stays i):=List.mem_filter.2 ⟨hy,pO⟩
   simp only [zF,dz]
   cases fv ⟨aP m.aa i (aY 0),bP (aK i) m.an,m.ae.filter (stays i),m.Next⟩ with
   | false=>exact hf
   | true=>exact List.mem_append_left _ hf
theorem yu {i:Int} {y:bO} (hy:y∈(iC i m).ae):y∈m.ae\/(y.Kind=5/\y.Id=m.Next):=by
 revert hy
 simp only [iC]
 cases decide (40<=(m.ae.length:Int))|| !within m.Next 1 99999 with
 | true=>exact .inl
 | false =>
  simp only [zF]
  cases decide (0<(gB (ai m.aa i)).Links)||((gB (ai m.aa i)).Kind==0) with
  | true=>exact .inl
  | false =>
   simp only [zF,dz]
   cases fv ⟨aP m.aa i (aY 0),bP (aK i) m.an,m.ae.filter (stays i),m.Next⟩ with
   | false=>exact fun hy=> .inl (List.mem_filter.1 hy).1
   | true =>
    intro hy
    rcases zH.1 hy with hy | hy
    ·exact .inl (List.mem_filter.1 hy).1
    ·rw [zS] at hy; subst hy; exact .inr ⟨rfl,rfl⟩
theorem xA (i:Int) (m:Mem):m.Next<=(iC i m).Next:=by
 simp only [iC]
 cases decide (40<=(m.ae.length:Int))|| !within m.Next 1 99999 with
 | true=>exact Int.le_refl _
 | false =>
  simp only [zF]
  cases decide (0<(gB (ai m.aa i)).Links)||((gB (ai m.aa i)).Kind==0) with
  | true=>exact Int.le_refl _
  | false =>
   simp only [zF,dz]
   cases fv ⟨aP m.aa i (aY 0),bP (aK i) m.an,m.ae.filter (stays i),m.Next⟩ with
   | false=>exact Int.le_refl _
   | true=>show m.Next<=m.Next+1; omega
structure Pe (X:List Int) (m:Mem):Prop where
 g:Gd 0 X m
 len:m.ae.length<=36
 S4:m.Next+ly m.ae<=99100
theorem Pe.Gv (h:Pe X m) {z:bO} (hz:z∈m.ae) (h4:z.Kind=4):Pe X (Soft.iC z.Ino (bd m z.Id)):=by
 have h1:=LM h.g.R hz h4
 have h2:=F7 h.g.R hz
 have h3:=h.len
 have h5:=h.S4
 have hn:(bd m z.Id).Next=m.Next:=rfl
 have hg:=(h.g.Rp hz h4).iC (dq (h.g.R.num z hz)) (cV.2 ⟨by omega,h.g.R.n1,by show m.Next<=99999; omega⟩)
 have hl:=Gk z.Ino (bd m z.Id)
 refine ⟨hg,by omega,?_⟩
 rw [Ms]; have:=hl.2; omega
theorem wR:∀ (bl:List Int) (bb:List Bool) (p:Int),(∀ q∈bl,1<=q)->1<=p->p∉bl->(ji bl bb).getD (p-1).toNat false=bb.getD (p-1).toNat false
 | [],bb,p,_,_,_=>rfl
 | q::bl,bb,p,h,hp,hn=>by
  show (ji bl (bb.set (q-1).toNat false)).getD (p-1).toNat false=_
  rw [wR bl _ p (fun x hx=>h x (zJ _ hx)) hp fun hx=>hn (zJ _ hx),cF,if_neg]
  rintro ⟨h1,_⟩
  have:=h q zO
  exact hn (by rw [show p=q by omega]; exact zO)
theorem vU:∀ (bl:List Int) (bb:List Bool),(ji bl bb).length=bb.length
 | [],bb=>rfl
 | q::bl,bb=>by
  show (ji bl (bb.set (q-1).toNat false)).length=_
  rw [vU bl,List.length_set]
theorem Gd.r8 (h:Gd 0 [] m) {x:bO} (hx:x∈m.ae) (h5:x.Kind=5):Gd 0 x.ab (Soft.r8 x (bd m x.Id)):=by
 have T:=h.T'
 obtain ⟨a1,a2,a3,a4⟩:=h.fr x hx h5
 have hi:=dq (h.R.num x hx)
 have QJ:=fun p hp=>ak.1 (List.all_eq_true.1 (h.R.bs x hx) p hp)
 have hs:=List.filter_sublist (p:=fun y:bO=> !(y.Id==x.Id)) (l:=m.ae)
 have hr:=pc (l:=m.ae) (P:=fun y=> !(y.Id==x.Id)) fun d hd h4=>by
  have:d.Id≠x.Id:=fun hh=>by have:=pF h.R.ids hd hx hh; rw [this,h5] at h4; exact absurd h4 (by decide)
  simpa using this
 have HA:∀ p,lz p->p∉x.ab->(ji x.ab m.aa.au.ab).getD (p-1).toNat false=Ca m.aa p:=fun p hp hn=>wR _ _ _ (fun q hq=>(QJ q hq).1) hp.1 hn
 have SL:∀ i,I8 i->i≠x.Ino->(m.aa.au.bB.set (x.Ino-1).toNat false).getD (i-1).toNat false=CA m.aa i:=fun i rT cL=>by
  rw [cF,if_neg]
  ·rfl
  ·rintro ⟨q,_⟩
   obtain ⟨b1,b2⟩:=rT
   omega
 have hR:=(h.R.drop x.Id).tT (bb:=ji x.ab m.aa.au.ab) (bi:=m.aa.au.bB.set (x.Ino-1).toNat false) ((vU _ _).trans T.bb) (List.length_set.trans T.bi)
 have hg:DG ⟨⟨ji x.ab m.aa.au.ab,m.aa.au.bB.set (x.Ino-1).toNat false⟩,m.aa.ad,m.aa.ab⟩:=DG.same T h.g T.di rfl (fun _ _=>rfl) (fun _ _ _=>rfl) (fun _ _ _=>rfl)
  (fun i k rT h0=>(HA _ (T.gX rT h0) (fun q=>(a4 _ q).2 i k rT rfl)).trans (h.g.bm i k rT h0))
  (fun i rT h0=>(SL i rT (fun q=>h0 (q▸a1))).trans (h.g.Nb i rT h0))
 have hR2:fy (Soft.r8 x (bd m x.Id)):=hR.bG ((cK _ _).trans h.R.dy)
 have acZ:∀ y∈m.ae,y.Kind=5->y.Id≠x.Id->y.Ino≠x.Ino/\∀ p∈y.ab,p∉x.ab:=fun y hy Yq cL=>by
  have:=h.Ed
  rw [List.pairwise_iff_getElem] at this
  obtain ⟨i1,zr,rfl⟩:=List.mem_iff_getElem.1 hx
  obtain ⟨i2,Vo,rfl⟩:=List.mem_iff_getElem.1 hy
  rcases Nat.lt_trichotomy i1 i2 with fP | heq | hgt
  ·have:=this i1 i2 zr Vo fP h5 Yq
   exact ⟨fun q=>this.1 q.symm,fun p hp hq=>this.2 p hq hp⟩
  ·subst heq; exact absurd rfl cL
  ·exact this i2 i1 Vo zr hgt Yq h5
 refine ⟨hR2,fun d hd=>h.sz d (hs.subset hd),hg,?_,h.Ed.sublist hs,?_,?_,?_,fun d hd=>h.nd d (hs.subset hd),?_,h.us.sublist hs,?_⟩
 ·intro y hy Yq
  obtain ⟨MH,cL⟩:=dF.1 hy
  obtain ⟨b1,b2,b3,b4⟩:=h.fr y MH Yq
  obtain ⟨c1,c2⟩:=acZ y MH Yq cL
  refine ⟨b1,(SL _ (dq (h.R.num y MH)) c1).trans b2,b3,fun p hp=>⟨(HA p ?_ (c2 p hp)).trans (b4 p hp).1,(b4 p hp).2⟩⟩
  have:=ak.1 (List.all_eq_true.1 (h.R.bs y MH) p hp)
  exact ⟨this.1,this.2⟩
 ·intro j; show _->_->_->_=_+((gj (m.ae.filter fun y=> !(y.Id==x.Id)) j:Nat):Int)+_; rw [hr]; exact h.lk j
 ·intro j; show _->_->gj (m.ae.filter fun y=> !(y.Id==x.Id)) j=0/\_; rw [hr]; exact h.Cp j
 ·show gj (m.ae.filter fun y=> !(y.Id==x.Id)) 1=0/\_; rw [hr]; exact h.rt
 ·intro y hy h4
  obtain ⟨MH,cL⟩:=dF.1 hy
  obtain ⟨a,b⟩:=h.rd y MH h4
  refine ⟨a,?_⟩
  rcases b with b | b | ⟨f,hf,Cr,FK⟩
  ·exact .inl b
  ·cases b
  ·by_cases hh:f.Id=x.Id
   ·have:=pF h.R.ids hf hx hh
    subst this; exact .inr (.inl FK)
   ·exact .inr (.inr ⟨f,dF.2 ⟨hf,hh⟩,Cr,FK⟩)
 ·intro y hy h4 h0
  obtain ⟨MH,cL⟩:=dF.1 hy
  obtain ⟨z,hz,a,b,c⟩:=h.af y MH h4 h0
  refine ⟨z,dF.2 ⟨hz,fun hh=> ?_⟩,a,b,c⟩
  have:=pF h.R.ids hz hx hh
  rw [this,h5] at b; omega
theorem sK:∀ (l:List bO) (o:Mem),Pe X o->(l.Pairwise fun a b=>¬ a.Id=b.Id)->(∀ z∈l,z.Kind=4->z∈o.ae)->(∀ y∈o.ae,y.Kind=4->y.Block∈X->y∈l) ->
  Pe X (l.foldl (oM X) o)/\(∀ y∈(l.foldl (oM X) o).ae,y.Kind=4->y.Block∉X)/\(∀ y∈o.ae,(y.Kind=5\/y.Kind=3)->(∀ z∈l,z.Kind=4->z.Id≠y.Id)->y∈(l.foldl (oM X) o).ae)/\o.Next<=(l.foldl (oM X) o).Next /\
  (∀ y∈(l.foldl (oM X) o).ae,y∈o.ae\/(y.Kind=5/\o.Next<=y.Id))/\(l.foldl (oM X) o).aa.ab=o.aa.ab
 | [],o,h,_,_,h2=>⟨h,fun y hy h4 hX=>(List.not_mem_nil (h2 y hy h4 hX)).elim,fun y hy _ _=>hy,Int.le_refl _,fun y hy=> .inl hy,rfl⟩
 | z::l,o,h,hp,h1,h2=>by
  rw [List.pairwise_cons] at hp
  rw [List.foldl_cons]
  have e:oM X o z=if z.Kind=4/\z.Block∈X then iC z.Ino (bd o z.Id) else o:=by
   simp only [oM]
   by_cases hk:z.Kind=4
   ·by_cases hX:z.Block∈X
    ·rw [if_pos ⟨hk,hX⟩,hk,Fb.2 hX]; rfl
    ·rw [if_neg (fun q=>hX q.2)]
     have:has X z.Block=false:=by rw [← Bool.not_eq_true,Fb]; exact hX
     rw [this,Bool.and_false]; rfl
   ·rw [if_neg (fun q=>hk q.1),beq_eq_false_iff_ne.2 hk]; rfl
  rw [e]
  by_cases hc:z.Kind=4/\z.Block∈X
  ·rw [if_pos hc]
   have hz:=h1 z zO hc.1
   have hM:=h.Gv hz hc.1
   have iU:(iC z.Ino (bd o z.Id)).aa.ab=o.aa.ab:=by
    simp only [iC]
    cases decide (40<=((bd o z.Id).ae.length:Int))|| !within (bd o z.Id).Next 1 99999 with
    | true=>rfl
    | false =>
     simp only [zF]
     cases decide (0<(gB (ai (bd o z.Id).aa z.Ino)).Links)||((gB (ai (bd o z.Id).aa z.Ino)).Kind==0) with
     | true=>rfl
     | false=>simp only [zF,yH]; rfl
   have:=sK l _ hM hp.2 (fun y hy h4=>Bb (dF.2 ⟨h1 y (zJ _ hy) h4,fun q=>hp.1 y hy q.symm⟩) (by omega) (by omega)) (fun y hy h4 hX=>by
    rcases yu hy with q | q
    ·obtain ⟨q1,q2⟩:=dF.1 q
     exact (zI.1 (h2 y q1 h4 hX)).resolve_left fun q=>q2 (by rw [q])
    ·omega)
   obtain ⟨r1,r2,r3,r4,r5,r6⟩:=this
   refine ⟨r1,r2,fun y hy hk cL=>r3 y (Bb (dF.2 ⟨hy,fun q=>cL z zO hc.1 q.symm⟩) (by omega) (by omega)) hk fun w hw=>cL w (zJ _ hw),Int.le_trans (xA z.Ino (bd o z.Id)) r4,fun y hy=> ?_,r6.trans iU⟩
   rcases r5 y hy with q | q
   ·rcases yu q with q | q
    ·exact .inl (dF.1 q).1
    ·exact .inr ⟨q.1,by rw [q.2]; exact Int.le_refl _⟩
   ·exact .inr ⟨q.1,Int.le_trans (xA z.Ino (bd o z.Id)) q.2⟩
  ·rw [if_neg hc]
   have:=sK l o h hp.2 (fun y hy h4=>h1 y (zJ _ hy) h4) (fun y hy h4 hX=>(zI.1 (h2 y hy h4 hX)).resolve_left fun q=>hc (by rw [← q]; exact ⟨h4,hX⟩))
   obtain ⟨r1,r2,r3,r4,r5,r6⟩:=this
   exact ⟨r1,r2,fun y hy hk cL=>r3 y hy hk fun w hw=>cL w (zJ _ hw),r4,r5,r6⟩
theorem Pe.ti (h:Pe [] m) {x:bO} (hx:x∈m.ae) (h5:x.Kind=5):Pe [] (Soft.ti x m)/\(∀ y∈m.ae,y.Id≠x.Id->(y.Kind=5\/y.Kind=3)->y∈(Soft.ti x m).ae)/\m.Next<=(Soft.ti x m).Next /\
  (∀ y∈(Soft.ti x m).ae,y∈m.ae\/(y.Kind=5/\m.Next<=y.Id))/\(Soft.ti x m).aa.ab=m.aa.ab:=by
 have hg:=h.g.r8 hx h5
 have hl:=F7 h.g.R hx
 have hra:ly (bd m x.Id).ae=ly m.ae:=by
  have:=qs h.g.R.ids hx (fun d=>d.Kind==4)
  rw [h5] at this; exact this
 have hlen:=h.len
 have Yd:=h.S4
 have hM:Pe x.ab (r8 x (bd m x.Id)):=⟨hg,by show (bd m x.Id).ae.length<=36; omega,by show m.Next+ly (bd m x.Id).ae<=99100; rw [hra]; exact Yd⟩
 obtain ⟨r1,r2,r3,r4,r5,r6⟩:=sK (bd m x.Id).ae _ hM (h.g.R.ids.sublist List.filter_sublist) (fun z hz _=>hz) (fun y hy _ _=>hy)
 refine ⟨⟨?_,r1.len,r1.S4⟩,fun y hy cL hk=>r3 y (dF.2 ⟨hy,cL⟩) hk fun z hz h4 hh=> ?_,r4,fun y hy=> ?_,r6⟩
 ·have g:=r1.g
  refine ⟨g.R,g.sz,g.g,g.fr,g.Ed,g.lk,g.Cp,g.rt,g.nd,?_,g.us,g.af⟩
  intro y hy h4
  obtain ⟨a,b⟩:=g.rd y hy h4
  refine ⟨a,?_⟩
  rcases b with b | b | b
  ·exact .inl b
  ·exact absurd b (r2 y hy h4)
  ·exact .inr (.inr b)
 ·have:=pF h.g.R.ids (dF.1 hz).1 hy hh
  subst this; omega
 ·rcases r5 y hy with q | q
  ·exact .inl (dF.1 q).1
  ·exact .inr q
def W7 (u:Int) (x:bO):Prop:=(x.Kind=5/\aK x.Ino=u)\/(x.Kind=3/\aE x.Block=u)\/(x.Kind=4/\x.bC=0/\aE x.Block=u)
theorem zj {i:Int} (h:I8 i):1<=aK i/\aK i<=4:=by
 obtain ⟨a,b⟩:=h
 simp only [aK,ak.2 ⟨a,b⟩,zE]; omega
theorem oY (p:Int):aE p= -1\/5<=aE p:=by
 simp only [aE]
 cases h:within p 1 16 with
 | true=>rw [ak] at h; right; simp only [zE]; omega
 | false=>exact .inl rfl
theorem H8 (id b:Int) (m:Mem):ly (shown id b m).ae<=ly m.ae:=by
 have h1:ly (shown id b m).ae=ly (bd m id).ae:=by
  simp only [shown,ly,List.countP_map]
  apply List.countP_congr
  intro y _
  simp [(bh id b y).2.1]
 rw [h1]
 exact List.Sublist.countP_le List.filter_sublist
structure DI (u:Int) (l:List bO) (o:Mem):Prop where
 M:Pe [] o
 k:∀ x∈l,∀ y∈o.ae,y.Id=x.Id->y.Kind=x.Kind
 n:∀ x∈l,x.Id<o.Next
 p:∀ x∈l,W7 u x->x∈o.ae
theorem B7 (u:Int) (o:Mem) (d:bO):(d.Kind=6/\aK d.Ino=u/\iB u o d=bd o d.Id)\/(d.Kind=5/\aK d.Ino=u/\iB u o d=ti d o)\/(d.Kind=3/\aE d.Block=u/\iB u o d=shown d.Id 0 o) \/
  (d.Kind=4/\d.bC=0/\aE d.Block=u/\iB u o d=iC d.Ino (bd o d.Id))\/(¬ (d.Kind=6/\aK d.Ino=u)/\¬ W7 u d/\iB u o d=o):=by
 simp only [iB]
 cases h6:(d.Kind==6)&&(aK d.Ino==u) with
 | true=>simp only [zB,beq_iff_eq] at h6; exact .inl ⟨h6.1,h6.2,rfl⟩
 | false =>
 cases h5:(d.Kind==5)&&(aK d.Ino==u) with
 | true=>simp only [zB,beq_iff_eq] at h5; exact .inr (.inl ⟨h5.1,h5.2,rfl⟩)
 | false =>
 cases h3:(d.Kind==3)&&(aE d.Block==u) with
 | true=>simp only [zB,beq_iff_eq] at h3; exact .inr (.inr (.inl ⟨h3.1,h3.2,rfl⟩))
 | false =>
 cases h4:((d.Kind==4)&&(d.bC==0))&&(aE d.Block==u) with
 | true=>simp only [zB,beq_iff_eq] at h4; exact .inr (.inr (.inr (.inl ⟨h4.1.1,h4.1.2,h4.2,rfl⟩)))
 | false =>
  refine .inr (.inr (.inr (.inr ⟨?_,?_,rfl⟩)))
  ·rintro ⟨a,b⟩; rw [a,b] at h6; simp at h6
  ·rintro (⟨a,b⟩ | ⟨a,b⟩ | ⟨a,b,c⟩)
   ·rw [a,b] at h5; simp at h5
   ·rw [a,b] at h3; simp at h3
   ·rw [a,b,c] at h4; simp at h4
theorem DI.step {u:Int} {x:bO} {l:List bO} {o:Mem} (h:DI u (x::l) o) (hp:(x::l).Pairwise fun a b=>¬ a.Id=b.Id) (hI:I8 x.Ino):DI u l (iB u o x):=by
 rw [List.pairwise_cons] at hp
 have hk:=fun y hy=>h.k y (zJ x hy)
 have hn:=fun y hy=>h.n y (zJ x hy)
 have ng:=fun y hy=>h.p y (zJ x hy)
 have hlen:=h.M.len
 have Yd:=h.M.S4
 rcases B7 u o x with ⟨a,b,c⟩ | ⟨a,b,c⟩ | ⟨a,b,c⟩ | ⟨a,b,b',c⟩ | ⟨a,b,c⟩
 ·rw [c]
  have hg:=h.M.g.sub (P:=fun y=> !(y.Id==x.Id)) fun y hy h1 h6=>by
   have:=h.k x zO y hy
   have cL:y.Id≠x.Id:=fun q=>h6 ((this q).trans a)
   simpa using cL
  have hs:=List.filter_sublist (p:=fun y:bO=> !(y.Id==x.Id)) (l:=o.ae)
  refine ⟨⟨hg,Nat.le_trans hs.length_le hlen,?_⟩,fun y hy z hz=>hk y hy z (hs.subset hz),hn,fun y hy hr=>dF.2 ⟨ng y hy hr,fun q=>hp.1 y hy q.symm⟩⟩
  have:ly (o.ae.filter fun y=> !(y.Id==x.Id))<=ly o.ae:=List.Sublist.countP_le hs
  show o.Next+ly (o.ae.filter fun y=> !(y.Id==x.Id))<=99100
  omega
 ·rw [c]
  have hx:=h.p x zO (.inl ⟨a,b⟩)
  obtain ⟨r1,r2,r3,r4,_⟩:=h.M.ti hx a
  have hu:=zj hI
  rw [b] at hu
  refine ⟨r1,fun y hy z hz T0=> ?_,fun y hy=>Int.lt_of_lt_of_le (hn y hy) r3,fun y hy hr=>r2 y (ng y hy hr) (fun q=>hp.1 y hy q.symm) ?_⟩
  ·rcases r4 z hz with q | q
   ·exact hk y hy z q T0
   ·have:=hn y hy; omega
  ·rcases hr with q | q | q
   ·exact .inl q.1
   ·have:=oY y.Block; omega
   ·have:=oY y.Block; omega
 ·rw [c]
  have hx:=h.p x zO (.inr (.inl ⟨a,b⟩))
  have hg:=h.M.g.shown hx (.inr a) (b:=0) (.inl rfl)
  refine ⟨⟨hg,Nat.le_trans (Dx _ _ _) hlen,?_⟩,fun y hy z hz T0=> ?_,hn,fun y hy hr=> ?_⟩
  ·have:=H8 x.Id 0 o
   show o.Next+ly (shown x.Id 0 o).ae<=99100
   omega
  ·obtain ⟨w,hw,_,rfl⟩:=eX.1 hz
   rw [(bh _ _ w).1] at T0; rw [(bh _ _ w).2.1]
   exact hk y hy w hw T0
  ·refine eX.2 ⟨y,ng y hy hr,fun q=>hp.1 y hy q.symm,?_⟩
   have oQ:=(ey (h.M.g.R.num x hx)).1.1
   simp only [eQ]
   rcases hr with q | q | q
   ·rw [q.1]; rfl
   ·rw [q.1]; rfl
   ·rw [q.1,q.2.1,beq_eq_false_iff_ne.2 (show (0:Int)≠x.Id by omega)]; rfl
 ·rw [c]
  have hx:=h.p x zO (.inr (.inr ⟨a,b,b'⟩))
  refine ⟨h.M.Gv hx a,fun y hy z hz T0=> ?_,fun y hy=>Int.lt_of_lt_of_le (hn y hy) (xA x.Ino (bd o x.Id)),fun y hy hr=> ?_⟩
  ·rcases yu hz with q | q
   ·exact hk y hy z (dF.1 q).1 T0
   ·have h1:=hn y hy
    have h2:z.Id=o.Next:=q.2
    omega
  ·refine Bb (dF.2 ⟨ng y hy hr,fun q=>hp.1 y hy q.symm⟩) ?_ ?_
   ·rcases hr with q | q | q<;>omega
   ·rcases hr with q | q | q<;>omega
 ·rw [c]; exact ⟨h.M,hk,hn,ng⟩
theorem DI.fold {u:Int}:∀ (l:List bO) (o:Mem),DI u l o->(l.Pairwise fun a b=>¬ a.Id=b.Id)->(∀ x∈l,I8 x.Ino)->Pe [] (l.foldl (iB u) o)
 | [],o,h,_,_=>h.M
 | x::l,o,h,hp,hI=>by
  rw [List.foldl_cons]
  exact DI.fold l _ (h.step hp (hI x zO)) (List.pairwise_cons.1 hp).2 fun y hy=>hI y (zJ _ hy)
theorem DU (u:Int):CM fun d=>mN u (mD u d):=by
 refine ⟨fun d=> ?_,fun d=> ?_⟩
 ·obtain ⟨a1,a2,a3,a4,a5,a6,a7,a8,a9⟩:=kA u d
  exact ⟨a1,a3,a4,a5,a6,a7,a8,a9⟩
 ·exact .inl (kA u d).2.1
theorem A9 (l:List bO):CM (jv l):=by
 refine ⟨sL l,fun d=> ?_⟩
 simp only [jv]
 cases h:((d.Kind==1)&&d.au)&&d.gy with
 | true=>simp only [zB,beq_iff_eq] at h; exact .inr (.inl ⟨h.1.1,rfl⟩)
 | false =>
  cases h2:(((d.Kind==2)&&d.au)&&d.gy)&&(!pending l d.Block) with
  | true=>simp only [zB,beq_iff_eq] at h2; exact .inr (.inr ⟨h2.1.1.1,rfl⟩)
  | false=>exact .inl rfl
theorem Rx (u:Int) {d:bO} (h1:d.Kind≠1) (h2:d.Kind≠2):mN u (mD u d)=d:=by
 have e1:mD u d=d:=by simp only [mD]; rw [beq_eq_false_iff_ne.2 h1,beq_eq_false_iff_ne.2 h2,Bool.or_false,Bool.and_false]; rfl
 rw [e1]
 simp only [mN]; rw [beq_eq_false_iff_ne.2 h1,beq_eq_false_iff_ne.2 h2]; rfl
theorem C2 {f:bO->bO} (ht:CM f) (l:List bO):ly (l.map f)=ly l:=by
 simp only [ly,List.countP_map]
 apply List.countP_congr
 intro d _
 have:=(ht.Nx d).1
 simp [this]
theorem j0.done (h:j0 m) (u:Int):j0 (Soft.done m u):=by
 simp only [Soft.done]
 cases hc:fe m&&within u 0 20 with
 | false=>exact h
 | true =>
  simp only [zE]
  have g0:=h.g.bG (y:=m.an.set u.toNat false) (List.length_set.trans h.g.R.dy)
  have g1:Gd 0 [] (flag u (clean u m)):=g0.So (DU u)
  have hD:DI u m.ae (flag u (clean u m)):=by
   refine ⟨⟨g1,by show (m.ae.map _).length<=36; rw [List.length_map]; exact h.len,by show m.Next+ly (m.ae.map _)<=99100; rw [C2 (DU u)]; exact h.S4⟩,fun x hx y hy he=> ?_,fun x hx=> ?_,fun x hx hr=> ?_⟩
   ·obtain ⟨z,hz,rfl⟩:=List.mem_map.1 hy
    rw [(kA u z).1] at he
    rw [(kA u z).2.1,pF h.g.R.ids hz hx he]
   ·have:=(ey (h.g.R.num x hx)).1.2
    show x.Id<m.Next; omega
   ·refine List.mem_map.2 ⟨x,hx,Rx u ?_ ?_⟩<;>rcases hr with q | q | q<;>omega
  have hM:=DI.fold m.ae _ hD h.g.R.ids fun x hx=>dq (h.g.R.num x hx)
  generalize m.ae.foldl (iB u) (flag u (clean u m))=o at hM
  have g2:=(hM.g.So (A9 o.ae)).bG (y:=o.ae.foldl (yi o.ae) o.an) ((va _ _ _).trans hM.g.R.dy)
  refine ⟨g2,?_,?_⟩
  ·show (List.map _ _).length<=36; rw [List.length_map]; exact hM.len
  ·show o.Next+(ly (o.ae.map (jv o.ae)):Int)<=99100; rw [C2 (A9 _)]; exact hM.S4
end Go.Soft
namespace Go.Soft
open Go
variable {R:Type} {m:Mem}
theorem j0.sz (h:j0 m):eU m:=h.g.T.Et
theorem F6 {n:Nat} (hn:bq<=n) (h:j0 m) (p q:ByteArray) (hp:p.size<=cO) (hq:q.size<=cO) (k:Mem->Int->Option R) :
  qR n m p q k=k (jl m p q).1 (jl m p q).2:=by
 have hm:=h.sz
 have T:=h.g.T'
 have uU:=h.g.R.n1
 have Qe:=T.di
 obtain ⟨q1,q2,q3⟩:=mu p
 obtain ⟨r1,r2,r3⟩:=mu q
 simp only [qR,jl]
 rw [dY hn m hm,pf hn p hp,pf hn q hq,mS hn m hm]
 cases hc:((!fe m)||(!(ao p).2.2))||(!(ao q).2.2) with
 | true=>rfl
 | false =>
 simp only [Bool.or_eq_false_iff,Bool.not_eq_false'] at hc
 simp only [zF,xP]
 obtain ⟨l,x,e1,e2,e3,hx,hl,hl3⟩:=gV hc.1.2
 rw [jd hn _ hm.d _ q1,qU hn _ hm.d,jd hn _ hm.d _ r1,e3]
 cases cf:((find m.aa (aD m.aa (ao p).1) x).2.2==0)||(aD m.aa (ao q).1==0) with
 | true=>rfl
 | false =>
 simp only [Bool.or_eq_false_iff] at cf
 have F:=(vS T (w:=aD m.aa (ao p).1) hx).resolve_left (fun z=>by rw [z.1] at cf; exact absurd cf.1 (by decide))
 generalize find m.aa (aD m.aa (ao p).1) x=f at *
 have MJ:=F.i8
 obtain ⟨i1,i2⟩:=MJ
 have Y8:=(ln T.di (ao q).1).resolve_left (by simpa using cf.2)
 simp only [zF]
 rw [bJ (x:=f.2.2) (by omega) (by omega),bJ (x:=aD m.aa (ao q).1) (by omega) (by omega),bu i1 (by omega),bu Y8.1 (by omega)]
 simp only [Bool.or_true,bf]
 show (bif (!((ai m.aa f.2.2).Kind==1))||(!((ai m.aa (aD m.aa (ao q).1)).Kind==2)) then _ else _)=_
 cases fJ:(!((ai m.aa f.2.2).Kind==1))||(!((ai m.aa (aD m.aa (ao q).1)).Kind==2)) with
 | true=>rfl
 | false =>
 simp only [zF]
 rw [jd hn _ hm.d _ hq]
 cases ja: !(aD m.aa q==0) with
 | true=>rfl
 | false =>
 simp only [zF]
 rw [yR hn m hm.dp hm.d.di _ Y8.1 (by omega) (by rw [T.rK Y8.1 Y8.2]; decide),H9 hn m hm _ r1]
 have ez:∀ a b:Bool,(a||(bif !a then b else false))=(a||b):=fun a b=>by cases a<;>rfl
 simp only [ez]
 cases vJ:waits m (aD m.aa (ao q).1) (ao q).2.1||deep m (ao q).1 with
 | true=>rfl
 | false =>
 simp only [zF,jM]
 have er:(decide ((m.ae.length:Int)<=32)&&decide (m.Next<=99000))=room m:=rfl
 rw [er]
 cases zt: !room m with
 | true=>rfl
 | false =>
 simp only [zF]
 show (bif decide (200<=(ai m.aa f.2.2).Links) then _ else _)=_
 cases K0:decide (200<=(ai m.aa f.2.2).Links) with
 | true=>rfl
 | false =>
 simp only [zF,EL]
 simp only [Bool.or_eq_false_iff,Bool.not_eq_false',beq_eq_false_iff_ne,beq_iff_eq,decide_eq_false_iff_not] at cf fJ ja vJ zt K0
 have zd:=sx.1 zt
 obtain ⟨w1,w2,w3,w4,w5⟩:=xY h.g hc.2 ja cf.2 fJ.2
 have vN:aU m.aa f.2.2=1:=fJ.1
 have hgm:=h.g.Pb F.i8 vN (by show (ai m.aa f.2.2).Links<200; omega)
 have MM:Gd f.2.2 [] (cX m f.2.2):=hgm.bG (y:=bP (aK f.2.2) m.an) ((cK _ _).trans h.g.R.dy)
 have z9:0<=(ai m.aa f.2.2).Links:=by
  have:=T.sF i1 i2
  simp only [bj,zB,ak] at this; exact this.2.1.1
 rw [dY hn m hm,cq (n:=(m.aa.ad.getD (f.2.2-1).toNat ay).Links+1) (by show _<=(ai m.aa f.2.2).Links+1; omega) (by show (ai m.aa f.2.2).Links+1<=_; omega),gm,dk,jF]
 have ek:∀ i,I8 i->aU (cX m f.2.2).aa i=aU m.aa i:=fun i hi=>by
  show aU (aP m.aa f.2.2 _) i=_
  rw [dB T.di F.i8 hi]; split
  ·next z=>rw [z]; rfl
  ·rfl
 have ep:∀ i k,I8 i->aX (cX m f.2.2).aa i k=aX m.aa i k:=fun i k hi=>by
  show aX (aP m.aa f.2.2 _) i k=_
  rw [eN T.di F.i8 hi]; split
  ·next z=>rw [z]; rfl
  ·rfl
 have es:∀ q u,cA (cX m f.2.2).aa q u=cA m.aa q u:=fun q u=>rfl
 have eo:=n6 ek ep
 have ec:=oi T.di (MM.T'.di) ek ep rfl
 have Tk:LC (cX m f.2.2) (aD m.aa (ao q).1) (ao q).2.1 f.2.2:=by
  refine ⟨w1,by rw [ek _ w1]; exact fJ.2,w2,F.i8,?_,?_,fun z=>by rw [ek _ F.i8,vN] at z; exact absurd z (by decide)⟩
  ·rcases w3 with z | z
   ·exact .inl z
   ·exact .inr (by show kW (cX m f.2.2).aa _≠0; rw [show kW (cX m f.2.2).aa _=kW m.aa _ from ec _]; exact z)
  ·intro l t; rw [ep _ _ w1,es]; exact w4 l t
 have Vu:∀ k:Int->Mem->Option R,pZ n (aD m.aa (ao q).1) (ao q).2.1 f.2.2 (cX m f.2.2) k=_:=fun k=>DF hn _ MM.T w1.1 w1.2 (by show aU _ _≠0; rw [ek _ w1]; show (ai m.aa _).Kind≠0; rw [fJ.2]; decide) w2 i1 i2 k
 rw [aj (bu i1 (by omega))]
 refine (Vu _).trans ?_
 cases Wy:(dK (cX m f.2.2) (aD m.aa (ao q).1) (ao q).2.1 f.2.2).2==0 with
 | true=>rfl
 | false =>
 simp only [zF]
 have P:=(qF (m:=cX m f.2.2) MM (by show m.ae.length<=38; omega) (by show m.Next<=99998; omega) Tk).resolve_left (by simpa using Wy)
 generalize dK (cX m f.2.2) (aD m.aa (ao q).1) (ao q).2.1 f.2.2=t at *
 have hB:=F.b
 have Ws:f.1≠0:=by obtain ⟨a,b⟩:=hB; omega
 have SO:m9 (cX m f.2.2).aa f.1:=(eo _).2 F.own
 have hI:(cA m.aa f.1 f.2.1.toNat).Ino=f.2.2:=by rw [F.sl]
 have hs1:cA t.1.aa f.1 f.2.1.toNat=cA m.aa f.1 f.2.1.toNat:=P.same _ _ hB SO (by rw [es,hI]; omega)
 obtain ⟨dp,ds,Wq,hd2,MZ⟩:=P.dep
 have oQ:=(ey (P.g.R.num _ Wq)).1
 have af8:1<=t.2:=oQ.1
 have acK:t.2<=t.1.Next-1:=oQ.2
 exact AL hn P.g.T hB.1 hB.2 (P.g.g.u4 (P.own _ Ws SO) Ws) F.s.1 F.s.2 (by
  rw [ak]
  show 1<=(cA t.1.aa f.1 f.2.1.toNat).Ino/\(cA t.1.aa f.1 f.2.1.toNat).Ino<=8
  rw [hs1,hI]; exact ⟨i1,i2⟩) (by omega) acK _
theorem qX:∀ i k,I8 i->aX fk i k=0:=by
 intro i k hi
 have hz:∀ kk,([0,0]:List Int).getD kk 0=0:=fun kk=>by
  match kk with
  | 0=>rfl
  | 1=>rfl
  | n+2=>rfl
 have:(ai fk i).ax=[0,0]:=by
  obtain ⟨a,b⟩:=hi
  have:i=1\/i=2\/i=3\/i=4\/i=5\/i=6\/i=7\/i=8:=by omega
  rcases this with rfl | rfl | rfl | rfl | rfl | rfl | rfl | rfl<;>rfl
 simp only [aX,this,hz]
theorem Bf {i:Int} (hi:I8 i):aU fk i=if i=1 then 2 else 0:=by
 obtain ⟨a,b⟩:=hi
 have:i=1\/i=2\/i=3\/i=4\/i=5\/i=6\/i=7\/i=8:=by omega
 rcases this with rfl | rfl | rfl | rfl | rfl | rfl | rfl | rfl<;>rfl
theorem Lp:fe (lV fk)=true:=by decide +kernel
theorem j0.new:j0 (lV fk):=by
 have hR:=lL.1 Lp
 have hO:∀ p,p≠0->¬ m9 fk p:=fun p hp ⟨i,k,hi,_,h⟩=>by rw [qX i k hi] at h; exact hp h.symm
 have hg:DG fk:=by
  refine ⟨fun i k j l hi _ _ h=>absurd (qX i k hi) h,fun i k hi h=>absurd (qX i k hi) h,fun i hi h=> ?_,fun i k hi h=>absurd (qX i k hi) h,fun p s hp ho=>absurd ho (hO p (by obtain ⟨a,b⟩:=hp; omega)),
   fun i k s hi _ _ _ h=>absurd (qX i k hi) h,fun j hj h=> ?_,rfl,fun i k l s t hi _ h=>absurd (qX i k hi) h,⟨fun _=>0,rfl,fun i k s hi _ h=>absurd (qX i k hi) h⟩⟩
  ·rw [Bf hi] at h
   by_cases h1:i=1
   ·subst h1; rfl
   ·rw [if_neg h1] at h; exact absurd rfl h
  ·rw [Bf hj] at h
   by_cases h1:j=1
   ·subst h1; rfl
   ·rw [if_neg h1] at h; exact absurd h (by decide)
 have no:∀ {d:bO} {C:Prop},d∈(lV fk).ae->C:=fun hd=>(List.not_mem_nil hd).elim
 refine ⟨⟨hR,fun d hd=>no hd,hg,fun d hd=>no hd,List.Pairwise.nil,fun j hj h1 h=> ?_,fun j hj h=>⟨rfl,by obtain ⟨a,b⟩:=hj; omega⟩,⟨rfl,by decide⟩,fun d hd=>no hd,fun d hd=>no hd,List.Pairwise.nil,fun d hd=>no hd⟩,by decide,by decide⟩
 have h':aU fk j≠0:=h
 rw [Bf hj,if_neg h1] at h'; exact absurd rfl h'
theorem qp {β:Type} {L:Nat->Int->List β->Option R} {N:Nat} {f:Nat->β} {B:Nat} {q:List β->Option R} (hN:N<=1000)
  (hs:∀ m i acc,B<m->i<N->acc.length=i->L (m+1) (i:Int) acc=L m (aC ((i:Int)+1)) (acc++[f i])) (hq:∀ m acc,L (m+1) (N:Int) acc=q acc) :
  ∀ (r j n:Nat) (acc:List β),j+r=N->acc.length=j->r+B<n->L n (j:Int) acc=q (acc++(List.range' j r).map f)
 | 0,j,0,acc,h1,h2,h3=>by omega
 | 0,j,n+1,acc,h1,h2,h3=>by
  have:j=N:=by omega
  subst this; rw [hq]; simp
 | r+1,j,0,acc,h1,h2,h3=>by omega
 | r+1,j,n+1,acc,h1,h2,h3=>by
  rw [hs n j acc (by omega) (by omega) h2,bM (by omega),qp hN hs hq r (j+1) n _ (by omega) (by rw [zK,h2,zL]) (by omega),List.range'_succ,List.map_cons,List.append_assoc]
  rfl
def wg (d:aa):Device×Bool:=bif ll d then (⟨(List.range' 0 21).map fun u:Nat=>AD d u⟩,true) else (⟨[]⟩,false)
theorem Ht {n:Nat} (hn:bq<=n) (d:aa) (hd:iw d) (k:Device->Bool->Option R):kE n d k=k (wg d).1 (wg d).2:=by
 simp only [kE,wg]
 rw [xW hn d hd]
 cases h:ll d with
 | false=>rfl
 | true =>
  have T:=(kD.1 h).t
  simp only [zM,zF,zE]
  have:=qp (R:=R) (L:=iE n d.au.ab d.au.bB d.ad d.ab (fun v=>k ⟨v⟩ true)) (N:=21) (f:=fun u:Nat=>AD d u) (B:=0) (q:=fun v=>k ⟨v⟩ true) (by omega)
   (fun m i acc _ hi ha=>by
    simp only [iE]
    rw [show decide ((i:Int)<21)=true by simp; omega,bK]
    refine (Ba hn d T i (by omega) (by omega) _).trans ?_
    rw [aj (cm (i:=i) (by omega) (by omega) (by simp))])
   (fun m acc=>by simp [iE]) 21 0 n [] rfl rfl (aO hn (by omega))
  exact this
def F2:Fs:=⟨lV fk,(wg fk).1⟩
theorem Bs:ll fk=true:=by decide +kernel
theorem B6:iw fk:=(kD.1 Bs).t.sz
theorem Ol {n:Nat} (hn:bq<=n) (k:Fs->Option R):zW n k=k F2:=by
 simp only [zW]
 rw [qA hn,Ht hn _ B6,qA hn,Ly hn _ B6]; rfl
structure pK (f:Fs):Prop where
 m:j0 f.Mem
 d:dX f.Device=true
theorem pK.new:pK F2:=⟨j0.new,by decide +kernel⟩
theorem NF {d:Device} (h:dX d=true):d.cp.length=21:=by
 simp only [dX,zB,beq_iff_eq] at h; exact h.2
theorem Ej {d:Device} (h:dX d=true):d.cp.length<=cO:=by rw [NF h]; decide
theorem Ew {d:Device} (h:dX d=true) (u:Int) (s:ByteArray):dX (gi d u s).1=true:=by
 simp only [gi]
 cases hc:((!dX d)||(!within u 0 20))||(decide (60<(s.size:Int))) with
 | true=>exact h
 | false =>
  simp only [Bool.or_eq_false_iff,decide_eq_false_iff_not] at hc
  simp only [dX,zB,beq_iff_eq,zF,List.length_set,List.all_eq_true] at h ⊢
  refine ⟨fun x hx=> ?_,h.2⟩
  rcases mem_set hx with q | q
  ·exact h.1 x q
  ·rw [q,DZ,Bool.not_eq_true',decide_eq_false_iff_not]; exact hc.2
theorem wJ {n:Nat} (hn:bq<=n) (f:Fs) (hm:eU f.Mem) (hd:f.Device.cp.length<=cO) (u:Int) (k:Fs->Bool->Option R):g8 n f u k=k (dv f u).1 (dv f u).2:=by
 simp only [g8,dv]
 rw [EB hn _ hm,Ss hn f hm hd]
 cases hc:(!Mf f)||(!(eW f.Mem u).2) with
 | true=>simp only [zE]; rw [vC hn f hm hd]
 | false =>
  simp only [zF]
  rw [EV hn _ hd]
  cases hw: !(gi f.Device u (eW f.Mem u).1).2 with
  | true=>simp only [zE]; rw [vC hn f hm hd]
  | false =>
   simp only [zF]
   rw [(JM hn _ hm u _).1]
theorem pK.back {f:Fs} (h:pK f) (u:Int):pK (dv f u).1:=by
 simp only [dv]
 cases (!Mf f)||(!(eW f.Mem u).2) with
 | true=>exact h
 | false =>
  cases !(gi f.Device u (eW f.Mem u).1).2 with
  | true=>exact h
  | false=>exact ⟨h.m.done u,Ew h.d _ _⟩
def gG (l:List Bool):Nat:=(l.takeWhile fun b=> !b).length
def qv:Nat->Fs->Fs
 | 0,f=>f
 | k+1,f=>bif gG f.Mem.an==f.Mem.an.length then f else bif !(dv f (gG f.Mem.an)).2 then f else qv k (dv f (gG f.Mem.an)).1
def flush (f:Fs):Fs:=qv 400 f
theorem pK.qv:∀ (k:Nat) {f:Fs},pK f->pK (Soft.qv k f)
 | 0,f,h=>h
 | k+1,f,h=>by
  simp only [Soft.qv]
  cases gG f.Mem.an==f.Mem.an.length with
  | true=>exact h
  | false =>
   cases !(dv f (gG f.Mem.an)).2 with
   | true=>exact h
   | false=>exact pK.qv k (h.back _)
theorem He (l:List Bool) (hl:l.length<=2097152) (q:Int->Option R):∀ (s:List Bool) (j m:Nat),s=l.drop j->j<=l.length->s.length<m->jE l q m (j:Int)=q ((j+gG s:Nat):Int)
 | [],j,0,h1,h2,h3=>by cases h3
 | [],j,m+1,h1,h2,h3=>by
  have:l.length<=j:=by have:=congrArg List.length h1; simp at this; omega
  simp only [jE,bk,show decide (j<l.length)=false by simp; omega]
  rfl
 | b::s,j,0,h1,h2,h3=>by cases h3
 | b::s,j,m+1,h1,h2,h3=>by
  have hj:j<l.length:=by have:=congrArg List.length h1; simp at this; omega
  have hd:=cQ false hj
  rw [← h1] at hd; injection hd with hb hs
  simp only [jE,bk,aG,hj,zV,zM,Bool.false_or,bf,Bool.true_and,zC,← hb]
  cases b with
  | true=>rfl
  | false =>
   simp only [zN,zE]
   rw [bM (by omega),He l hl q s (j+1) m hs (by omega) (by simp at h3; omega)]
   simp only [gG,List.takeWhile_cons,zN,if_true,zR]
   congr 2; omega
theorem Fi {n:Nat} (hn:bq<=n) (f:Fs) (hm:eU f.Mem) (hd:f.Device.cp.length<=cO) (u:Int):eU (dv f u).1.Mem/\(dv f u).1.Device.cp.length<=cO:=by
 simp only [dv]
 cases (!Mf f)||(!(eW f.Mem u).2) with
 | true=>exact ⟨hm,hd⟩
 | false =>
  rw [zF]
  cases !(gi f.Device u (eW f.Mem u).1).2 with
  | true=>exact ⟨hm,hd⟩
  | false =>
   rw [zF]
   refine ⟨?_,?_⟩
   ·rcases (JM (R:=Unit) hn f.Mem hm u fun _=>none).2 with h | h
    ·show eU (done f.Mem u); rw [h]; exact hm
    ·exact h.2.Et
   ·show (gi f.Device u (eW f.Mem u).1).1.cp.length<=cO
    simp only [gi]
    cases ((!dX f.Device)||(!within u 0 20))||(decide (60<((eW f.Mem u).1.size:Int))) with
    | true=>exact hd
    | false=>rw [zF,List.length_set]; exact hd
theorem FZ {n:Nat} (hn:bq<=n) (K:Fs->Option R):∀ (r:Nat) (i m:Nat) (f:Fs),eU f.Mem->f.Device.cp.length<=cO->i+r=400->r+2097160<m ->
  mc n (fun v eF dx fX jb lF ix uV=>K ⟨⟨⟨⟨eF,dx⟩,fX,jb⟩,lF,ix,v⟩,⟨uV⟩⟩) (fun Cx qZ dJ oR jV gZ zu rV=>K ⟨⟨⟨⟨qZ,dJ⟩,oR,jV⟩,gZ,zu,Cx⟩,⟨rV⟩⟩) m (i:Int) f.Mem.Next f.Mem.aa.au.ab f.Mem.aa.au.bB f.Mem.aa.ad f.Mem.aa.ab f.Mem.an f.Mem.ae f.Device.cp=K (qv r f)
 | 0,i,0,f,h,h',h1,h2=>by omega
 | 0,i,m+1,f,h,h',h1,h2=>by
  simp only [mc]
  rw [show decide ((i:Int)<400)=false by simp; omega]
  rfl
 | r+1,i,0,f,h,h',h1,h2=>by omega
 | r+1,i,m+1,f,h,h',h1,h2=>by
  have SX:f.Mem.an.length<=2097152:=h.dy
  simp only [mc]
  rw [show decide ((i:Int)<400)=true by simp; omega,bK]
  refine (He (R:=R) f.Mem.an (by omega) _ f.Mem.an 0 m (by simp) (by omega) (by omega)).trans ?_
  rw [Nat.zero_add,cG]
  simp only [qv]
  cases gG f.Mem.an==f.Mem.an.length with
  | true=>rfl
  | false =>
   simp only [zF]
   refine (wJ hn f h h' _ _).trans ?_
   cases !(dv f (gG f.Mem.an)).2 with
   | true=>rfl
   | false =>
    simp only [zF]
    rw [bM (by omega)]
    have hz:=Fi hn f h h' (gG f.Mem.an)
    exact FZ hn K r (i+1) m _ hz.1 hz.2 (by omega) (by omega)
theorem K9 {n:Nat} (hn:bq<=n) (f:Fs) (hm:eU f.Mem) (hd:f.Device.cp.length<=cO) (k:Fs->Option R):oW n f k=k (flush f):=by
 simp only [oW]
 rw [vC hn f hm hd]
 exact FZ hn k 400 0 n f hm hd rfl (aO hn (by omega))
theorem N9 {n:Nat} (hn:bq<=n) (f:Fs) (h:pK f) (k:Fs->Option R):oW n f k=k (flush f):=K9 hn f h.m.sz (Ej h.d) k
def ld:List Node->Node->List Node
 | [],x=>[x]
 | y::r,x=>bif QA x.Path y.Path then y::ld r x else x::y::r
def zZ (l:List Node):List Node:=l.foldl ld []
def uK (l:List Node):List Node:=(zZ l).reverse
theorem oK:∀ (l:List Node) (x:Node),(ld l x).length=l.length+1
 | [],x=>rfl
 | y::r,x=>by
  simp only [ld]
  cases QA x.Path y.Path with
  | true=>simp only [zE,zR]; rw [oK r x]
  | false=>rfl
theorem Kd (q:List Node->Option R):∀ (r rest:List Node) (x:Node) (m:Nat),r.length<m->r.length+rest.length<=2097152->gR q m (r.length:Int) (r.reverse++x::rest)=q ((ld r x).reverse++rest)
 | r,rest,x,0,h,_=>by omega
 | [],rest,x,m+1,h,_=>by
  simp only [gR,List.length_nil]
  simp [ld,bf]
 | y::r,rest,x,m+1,h,hs=>by
  simp only [zR] at h hs
  have hlen:((y::r).reverse++x::rest).length=r.length+1+(rest.length+1):=by simp; omega
  have e0:(y::r).reverse++x::rest=r.reverse++y::x::rest:=by simp
  have g1:((y::r).reverse++x::rest).getD (r.length+1) eA=x:=oD eA (by simp)
  have g0:((y::r).reverse++x::rest).getD r.length eA=y:=by rw [e0]; exact oD eA (by simp)
  have s1:((y::r).reverse++x::rest).set (r.length+1) y=r.reverse++y::y::rest:=by
   rw [nD (a:=(y::r).reverse) y (by simp)]; simp
  have s0:(r.reverse++y::y::rest).set r.length x=r.reverse++x::y::rest:=nD x (by simp)
  simp only [gR,zR]
  rw [show aC (((r.length+1:Nat):Int)-1)=((r.length:Nat):Int) by rw [cq (by omega) (by omega)]; omega]
  simp only [zC,g1,g0,s1,s0,aG,hlen]
  rw [show decide ((0:Int)<((r.length+1:Nat):Int))=true by rw [zD]; omega,show decide (r.length<r.length+1+(rest.length+1))=true by rw [zD]; omega,show decide (r.length+1<r.length+1+(rest.length+1))=true by simp]
  simp only [Bool.or_true,bf,Bool.true_and]
  simp only [ld]
  cases hc:QA x.Path y.Path with
  | false=>simp
  | true =>
   simp only [zE]
   rw [aj (by simp)]
   refine (Kd q r (y::rest) x m (by omega) (by simp only [zR]; omega)).trans ?_
   congr 1; simp
theorem Kb (q:List Node->Option R):∀ (rest r:List Node) (m:Nat),r.length+rest.length+rest.length<m->r.length+rest.length<=2097152->fS q m (r.length:Int) (r.reverse++rest)=q (rest.foldl ld r).reverse
 | rest,r,0,h,_=>by omega
 | [],r,m+1,h,hs=>by
  simp [fS]
 | x::rest,r,m+1,h,hs=>by
  simp only [zR] at h hs
  simp only [fS]
  rw [show decide ((r.length:Int)<((r.reverse++x::rest).length:Int))=true by simp; omega,bK]
  refine (Kd _ r rest x m (by omega) (by omega)).trans ?_
  rw [bM (by omega),List.foldl_cons]
  have:=Kb q rest (ld r x) m (by rw [oK]; omega) (by rw [oK]; omega)
  rw [oK] at this
  exact this
theorem wZ {n:Nat} (hn:bq<=n) (l:List Node) (hl:l.length<=cO) (k:List Node->Option R):jx n l k=k (uK l):=by
 have yw:l.length<=2097152:=hl
 simp only [jx,List.nil_append]
 rw [aj (cn (by omega))]
 cases l with
 | nil =>
  have Nd:100000000<=n:=hn
  match n,Nd with
  | n+1,_=>simp [fS,uK,zZ]
 | cons a l =>
  simp only [zR] at yw
  exact Kb k l [a] n (aO hn (by simp only [zR,List.length_nil]; omega)) (by simp only [zR,List.length_nil]; omega)
theorem Dp (l:List Node):(uK l).length=l.length:=by
 have:∀ (l r:List Node),(l.foldl ld r).length=r.length+l.length:=by
  intro l
  induction l with
  | nil=>intro r; rfl
  | cons x l ih=>intro r; rw [List.foldl_cons,ih,oK,zR]; omega
 simp only [uK,List.length_reverse,zZ,this,List.length_nil,Nat.zero_add]
theorem Bj:∀ (l:List Node) (x y:Node),y∈ld l x↔y=x\/y∈l
 | [],x,y=>by simp [ld]
 | z::r,x,y=>by
  simp only [ld]
  cases QA x.Path z.Path with
  | true=>simp only [zE,zI,Bj r x y]; constructor<;>rintro (h | h | h)<;>simp [h]
  | false=>simp
theorem DM (l:List Node) (y:Node):y∈uK l↔y∈l:=by
 have:∀ (l r:List Node),y∈l.foldl ld r↔y∈r\/y∈l:=by
  intro l
  induction l with
  | nil=>intro r; simp
  | cons x l ih=>intro r; rw [List.foldl_cons,ih,Bj,zI,or_comm (a:=y=x),or_assoc]
 simp only [uK,List.mem_reverse,zZ,this]; simp
def below (p top:ByteArray):Bool:=(p==top)||(decide ((top.size:Int)<(p.size:Int))&&(p.extract 0 (top.size+1)==top++S [47]))
theorem Hc (p top:ByteArray) (hp:p.size<=cO) (ht:top.size<=cO) (k:Bool->Option R):qE p top k=k (below p top):=by
 have yy:p.size<=2097152:=hp
 have JA:top.size<=2097152:=ht
 have hS:(S [47]).size=1:=rfl
 simp only [qE,below]
 rw [bM (by omega),zC,aj,aj]
 ·rw [iO (by omega),Bool.or_true]
 ·cases hc:decide ((top.size:Int)<(p.size:Int)) with
  | false=>rw [Bool.and_false]; rfl
  | true =>
   rw [zD] at hc
   have:xf ((top.size+1:Nat):Int) p.size=true:=by simp only [xf,zB,zD]; omega
   rw [this,Bool.or_true]
def vx (e:Event) (x:Node):Node:=bif (!(x.Path==e.Path))||x.bZ then x else bif e.At==0 then ⟨x.Path,x.bZ,e.Text,x.NK⟩ else ⟨x.Path,x.bZ,x.Head,e.Text⟩
def A3 (e:Event) (x:Node):Node:=bif (x.Path==e.Path)&&(!x.bZ) then ⟨e.To,x.bZ,x.Head,x.NK⟩ else x
def dj (l:List Node) (e:Event):List Node :=
 bif (e.Kind==1)||(e.Kind==2) then uK (l++[⟨e.Path,e.Kind==2,eS,eS⟩]) else
 bif e.Kind==3 then l.map (vx e) else
 bif e.Kind==4 then l.filter (fun x=> !below x.Path e.Path) else
 bif e.Kind==5 then uK (l.map (A3 e)) else l
theorem OQ {n:Nat} (hn:bq<=n) (l:List Node) (hl:l.length<=cO) (e:Event) (q:List Node->Option R):da e.Path e.At e.Text q n 0 l=q (l.map (vx e)):=by
 have yw:l.length<=2097152:=hl
 refine jD (R:=R) (L:=da e.Path e.At e.Text q) (f:=vx e) (B:=0) (q:=q) (fun m a b x _ h=> ?_) (fun m a=> ?_) l [] n (by simp; omega) (aO hn (by omega))
 ·have g:(a++x::b).getD a.length eA=x:=oD eA rfl
  have s:∀ y,(a++x::b).set a.length y=a++y::b:=fun y=>nD y rfl
  simp only [da,zC,g,s,aG]
  rw [show decide ((a.length:Int)<((a++x::b).length:Int))=true by simp; omega,show decide (a.length<(a++x::b).length)=true by simp]
  simp only [zE,bf,Bool.or_true,vx]
  cases (!(x.Path==e.Path))||x.bZ with
  | true=>rfl
  | false=>cases e.At==0<;>rfl
 ·simp [da]
theorem L0 {n:Nat} (hn:bq<=n) (l:List Node) (hl:l.length<=cO) (e:Event) (q:List Node->Option R):dc e.Path e.To q n 0 l=q (l.map (A3 e)):=by
 have yw:l.length<=2097152:=hl
 refine jD (R:=R) (L:=dc e.Path e.To q) (f:=A3 e) (B:=0) (q:=q) (fun m a b x _ h=> ?_) (fun m a=> ?_) l [] n (by simp; omega) (aO hn (by omega))
 ·have g:(a++x::b).getD a.length eA=x:=oD eA rfl
  have s:∀ y,(a++x::b).set a.length y=a++y::b:=fun y=>nD y rfl
  simp only [dc,zC,g,s,aG]
  rw [show decide ((a.length:Int)<((a++x::b).length:Int))=true by simp; omega,show decide (a.length<(a++x::b).length)=true by simp]
  simp only [zE,bf,Bool.or_true,A3]
  cases (x.Path==e.Path)&&(!x.bZ)<;>rfl
 ·simp [dc]
theorem Lw {n:Nat} (hn:bq<=n) (l:List Node) (hl:l.length<=cO) (hp:∀ x∈l,x.Path.size<=cO) (p:ByteArray) (ng:p.size<=cO) (q:List Node->Option R):de p l q n 0 []=q (l.filter (fun x=> !below x.Path p)):=by
 have yw:l.length<=2097152:=hl
 refine pg (R:=R) (L:=de p l q) eA (P:=fun x=> !below x.Path p) (B:=0) (q:=q) (by omega) (fun m i acc _ hi ha=> ?_) (fun m acc=>by simp [de]) (aO hn (by omega))
 simp only [de,bk,aG,hi,zV,zE,bf,zC]
 rw [Hc _ _ (hp _ (aV eA hi)) ng]
 cases below (l.getD i eA).Path p with
 | true=>rfl
 | false=>simp only [zN,zE]; rw [aj (cm ha (by omega) (by simp))]
theorem CB {n:Nat} (hn:bq<=n) (l:List Node) (hl:l.length<=1048576) (hp:∀ x∈l,x.Path.size<=cO) (e:Event) (he:e.Path.size<=cO) (k:List Node->Option R):lq n l e k=k (dj l e):=by
 have MF:l.length<=cO:=Nat.le_trans hl (by decide)
 have hla:∀ y,(l++[y]).length<=cO:=fun y=>by rw [zK,zL]; exact Nat.le_trans (Nat.succ_le_succ hl) (by decide)
 have Ue:(l.map (A3 e)).length<=cO:=by rw [List.length_map]; exact MF
 have ok2:∀ y:Node,bg (l++[y])=true:=fun y=>cn (by rw [zK,zL]; omega)
 simp only [lq,dj,List.nil_append]
 rw [aj (cn (by omega))]
 simp only [ok2,bf]
 rw [OQ hn l MF,Lw hn l MF hp _ he,L0 hn l MF]
 simp only [wZ hn _ (hla _),wZ hn _ Ue]
 cases e.Kind==1<;>cases e.Kind==2<;>cases e.Kind==3<;>cases e.Kind==4<;>cases e.Kind==5<;>rfl
theorem yD (s:ByteArray) (i:Nat):bt s i<256:=by rw [Ge]; exact UInt8.toNat_lt _
def Cc (s:ByteArray) (i:Nat):Bool:=(bt s (i/8)/2 ^ (i % 8)) % 2==1
def mL (s:ByteArray):au×Bool:=bif s.size==3 then (⟨(List.range' 0 16).map (Cc s),(List.range' 16 8).map (Cc s)⟩,true) else (⟨[],[]⟩,false)
theorem za (i:Nat) (q:Int->Option R):∀ (r k m x:Nat),k+r=i % 8->r<m->x<=1000000->iL (i:Int) q m (x:Int) (k:Int)=q ((x/2 ^ r:Nat):Int)
 | 0,k,0,x,h1,h2,h3=>by omega
 | 0,k,m+1,x,h1,h2,h3=>by
  simp only [iL]
  rw [Int.tmod_eq_emod_of_nonneg (by omega),show decide ((k:Int)<(i:Int) % 8)=false by simp; omega]
  simp
 | r+1,k,0,x,h1,h2,h3=>by omega
 | r+1,k,m+1,x,h1,h2,h3=>by
  simp only [iL]
  rw [Int.tmod_eq_emod_of_nonneg (by omega),show decide ((k:Int)<(i:Int) % 8)=true by rw [zD]; omega,bK,Int.tdiv_eq_ediv_of_nonneg (by omega),show (x:Int)/2=((x/2:Nat):Int) by omega,ee (by omega),bM (by omega),
   za i q r (k+1) m (x/2) (by omega) (by omega) (by omega),Nat.div_div_eq_div_mul,Nat.pow_succ,Nat.mul_comm]
theorem R8 (x:Nat):(((x:Int).tmod 2)==1)=(x % 2==1):=by
 rw [Int.tmod_eq_emod_of_nonneg (by omega),show (x:Int) % 2=((x % 2:Nat):Int) by omega,show (1:Int)=((1:Nat):Int) from rfl,cG]
theorem uE (s:ByteArray) (h3:s.size=3) (q:List Bool->List Bool->Option R) (m j:Nat) (hj:j<24) (hm:8<m) (a b:List Bool) (ha:a.length<=1000) (hb:b.length<=1000) :
  dA s q (m+1) (j:Int) a b=bif decide (j<16) then dA s q m ((j+1:Nat):Int) (a++[Cc s j]) b else dA s q m ((j+1:Nat):Int) a (b++[Cc s j]):=by
 have hb8:=yD s (j/8)
 simp only [dA]
 rw [show decide ((j:Int)<24)=true by rw [zD]; omega,bK,Int.tdiv_eq_ediv_of_nonneg (by omega),show (j:Int)/8=((j/8:Nat):Int) by omega,ee (by omega),aG,h3,show decide (j/8<3)=true by rw [zD]; omega,bf,zC,ee (by omega)]
 refine (za (R:=R) j _ (j % 8) 0 m _ (by omega) (by omega) (by omega)).trans ?_
 rw [R8,bM (by omega),aj (cm ha (by omega) (by simp)),aj (cm hb (by omega) (by simp)),show decide ((j:Int)<16)=decide (j<16) from decide_eq_decide.2 (by omega)]
 rfl
theorem wK (s:ByteArray) (h3:s.size=3) (q:List Bool->List Bool->Option R):∀ (r j m:Nat) (a b:List Bool),j+r=24->16<=j->a.length<=1000->b.length<=j->r+10<m->dA s q m (j:Int) a b=q a (b++(List.range' j r).map (Cc s))
 | 0,j,0,a,b,h1,h2,ha,hb,hm=>by omega
 | 0,j,m+1,a,b,h1,h2,ha,hb,hm=>by
  simp only [dA]
  rw [show decide ((j:Int)<24)=false by simp; omega]; simp
 | r+1,j,0,a,b,h1,h2,ha,hb,hm=>by omega
 | r+1,j,m+1,a,b,h1,h2,ha,hb,hm=>by
  rw [uE s h3 q m j (by omega) (by omega) a b ha (by omega),decide_eq_false (by omega),br,wK s h3 q r (j+1) m a _ (by omega) (by omega) ha (by rw [zK,zL]; omega) (by omega),List.range'_succ,List.map_cons,List.append_assoc]
  rfl
theorem vY (s:ByteArray) (h3:s.size=3) (q:List Bool->List Bool->Option R):∀ (r j m:Nat) (a:List Bool),j+r=16->a.length<=j->r+30<m->dA s q m (j:Int) a []=q (a++(List.range' j r).map (Cc s)) ((List.range' 16 8).map (Cc s))
 | 0,j,m,a,h1,ha,hm=>by
  have:j=16:=by omega
  subst this
  rw [wK s h3 q 8 16 m a [] rfl (by omega) (by omega) (by simp) (by omega)]; simp
 | r+1,j,0,a,h1,ha,hm=>by omega
 | r+1,j,m+1,a,h1,ha,hm=>by
  rw [uE s h3 q m j (by omega) (by omega) a [] (by omega) (by simp),decide_eq_true (by omega),bK,vY s h3 q r (j+1) m _ (by omega) (by rw [zK,zL]; omega) (by omega),List.range'_succ,List.map_cons,List.append_assoc]
  rfl
theorem G8 {n:Nat} (hn:bq<=n) (s:ByteArray) (k:au->Bool->Option R):qC n s k=k (mL s).1 (mL s).2:=by
 simp only [qC,mL]
 rw [show (3:Int)=((3:Nat):Int) from rfl,cG]
 cases h:s.size==3 with
 | false=>rfl
 | true =>
  simp only [zM,zF,zE]
  exact vY s (by simpa using h) _ 16 0 n [] rfl (by simp) (aO hn (by omega))
def sY (s:ByteArray):aR:=⟨bt s 0,bt s 1,[(bt s 2:Int),(bt s 3:Int)]⟩
def gT (s:ByteArray):aR×Bool:=bif (s.size==4)&&bj (sY s) then (sY s,true) else (⟨0,0,[]⟩,false)
theorem E1 {n:Nat} (hn:bq<=n) (s:ByteArray) (k:aR->Bool->Option R):pr n s k=k (gT s).1 (gT s).2:=by
 simp only [pr,gT]
 rw [show (4:Int)=((4:Nat):Int) from rfl,cG]
 cases h:s.size==4 with
 | false=>rfl
 | true =>
  have h4:s.size=4:=by simpa using h
  have b0:=yD s 0
  have b1:=yD s 1
  have b2:=yD s 2
  have b3:=yD s 3
  simp only [zM,zF,Bool.true_and,h4]
  rw [ee (by omega),ee (by omega),ee (by omega),ee (by omega),aj (by rfl),aj (by rfl),aj (by rfl),aj (by rfl),u9 hn]
  show (bif !bj (sY s) then _ else _)=_
  cases bj (sY s)<;>rfl
def Lh (t:ByteArray) (b:Nat):Nat->Nat->Nat->Nat->Int×Int×Bool
 | 0,_,_,_=>(0,0,false)
 | f+1,x,sc,i=>bif decide (i<t.size) then
   bif decide (bt t i<128) then
    bif decide (1000000000<x+bt t i % 128*sc)|| !(IM (x+bt t i % 128*sc)==t.extract b (i+1)) then (0,0,false) else (((x+bt t i % 128*sc:Nat):Int),((i+1:Nat):Int),true)
   else Lh t b f (x+bt t i % 128*sc) (sc*128) (i+1)
  else (0,0,false)
def eJ (t:ByteArray) (b:Int):Int×Int×Bool:=bif within b 0 t.size then Lh t b.toNat 5 0 1 b.toNat else (0,0,false)
theorem Bl {n:Nat} (hn:bq<=n) (t:ByteArray) (ht:t.size<=cO) (b:Nat) (hb:b<=t.size) (q:Int->Int->Bool->Option R):∀ (f x sc i m:Nat),i+f=b+5->b<=i->sc<=128 ^ (5-f)->x<=128 ^ (5-f)->f<m ->
  jA n t (b:Int) q (q 0 0 false) m (x:Int) (sc:Int) (i:Int)=q (Lh t b f x sc i).1 (Lh t b f x sc i).2.1 (Lh t b f x sc i).2.2
 | 0,x,sc,i,0,h1,h2,h3,h4,h5=>by omega
 | 0,x,sc,i,m+1,h1,h2,h3,h4,h5=>by
  have JA:t.size<=2097152:=ht
  simp only [jA,Lh]
  rw [cq (n:=(b:Int)+5) (by omega) (by omega),show decide ((i:Int)<(b:Int)+5)=false by simp; omega,Bool.and_false]
  rfl
 | f+1,x,sc,i,0,h1,h2,h3,h4,h5=>by omega
 | f+1,x,sc,i,m+1,h1,h2,h3,h4,h5=>by
  have JA:t.size<=2097152:=ht
  have hbt:=yD t i
  have hf:f<=4:=by omega
  have hp:128 ^ (5-(f+1))<=128 ^ 4:=Nat.pow_le_pow_right (by decide) (by omega)
  have hp4:(128:Nat) ^ 4=268435456:=by decide
  have hps:128 ^ (5-f)=128 ^ (5-(f+1))*128:=by rw [← Nat.pow_succ]; congr 1; omega
  have hmul:bt t i % 128*sc<=127*sc:=zP _ (by omega)
  simp only [jA,Lh]
  rw [cq (n:=(b:Int)+5) (by omega) (by omega),show decide ((i:Int)<(b:Int)+5)=true by rw [zD]; omega,Bool.and_true,bk]
  cases hi:decide (i<t.size) with
  | false=>rfl
  | true =>
   simp only [zE,aG,hi,bf,zC]
   have e1:aC (((aC ((bt t i:Nat):Int)).tmod 128)*(sc:Int))=((bt t i % 128*sc:Nat):Int):=by
    rw [ee (by omega),Int.tmod_eq_emod_of_nonneg (by omega),show ((bt t i:Nat):Int) % 128=((bt t i % 128:Nat):Int) by omega,← Int.natCast_mul,ee (by omega)]
   have e2:aC ((x:Int)+((bt t i % 128*sc:Nat):Int))=((x+bt t i % 128*sc:Nat):Int):=by rw [← Int.natCast_add,ee (by omega)]
   simp only [e1,e2]
   rw [bM (by omega),show decide (((bt t i:Nat):Int)<128)=decide (bt t i<128) from decide_eq_decide.2 (by omega)]
   cases hc:decide (bt t i<128) with
   | true =>
    simp only [zE]
    rw [C8 hn _ (by omega),show decide ((1000000000:Int)<((x+bt t i % 128*sc:Nat):Int))=decide (1000000000<x+bt t i % 128*sc) from decide_eq_decide.2 (by omega),zC,
     show jX (b:Int) ((i+1:Nat):Int) t.size=true by rw [zD] at hi; simp only [jX,zB,zD]; omega,Bool.or_true,bf]
    cases decide (1000000000<x+bt t i % 128*sc) with
    | true=>rfl
    | false =>
     simp only [zN,zE,Bool.false_or]
     cases IM (x+bt t i % 128*sc)==t.extract b (i+1)<;>rfl
   | false =>
    simp only [zF]
    rw [show (sc:Int)*128=((sc*128:Nat):Int) by omega,ee (by omega)]
    exact Bl hn t ht b hb q f _ (sc*128) (i+1) m (by omega) (by omega) (by omega) (by omega) (by omega)
theorem Jm {n:Nat} (hn:bq<=n) (t:ByteArray) (ht:t.size<=cO) (b:Int) (k:Int->Int->Bool->Option R):tY n t b k=k (eJ t b).1 (eJ t b).2.1 (eJ t b).2.2:=by
 simp only [tY,eJ,iX]
 cases h:within b 0 t.size with
 | false=>rfl
 | true =>
  rw [ak] at h
  simp only [zM,zF,zE]
  obtain ⟨c,rfl⟩:=Int.eq_ofNat_of_zero_le h.1
  exact Bl hn t ht c (by omega) k 5 0 1 c n (by omega) (by omega) (by decide) (by decide) (aO hn (by omega))
theorem DR (t:ByteArray) (b:Nat):∀ (f x sc i:Nat),(Lh t b f x sc i)=(0,0,false)\/(0<=(Lh t b f x sc i).1/\(Lh t b f x sc i).1<=1000000000/\1<=(Lh t b f x sc i).2.1/\(Lh t b f x sc i).2.1<=t.size)
 | 0,x,sc,i=> .inl rfl
 | f+1,x,sc,i=>by
  simp only [Lh]
  cases hi:decide (i<t.size) with
  | false=>exact .inl rfl
  | true =>
   rw [zD] at hi
   simp only [zE]
   cases decide (bt t i<128) with
   | false=>exact DR t b f _ _ _
   | true =>
    simp only [zE]
    cases hc:decide (1000000000<x+bt t i % 128*sc)|| !(IM (x+bt t i % 128*sc)==t.extract b (i+1)) with
    | true=>exact .inl rfl
    | false =>
     rw [Bool.or_eq_false_iff,decide_eq_false_iff_not] at hc
     refine .inr ⟨?_,?_,?_,?_⟩<;>simp only [zF]<;>omega
theorem uT (t:ByteArray) (b:Int):(eJ t b)=(0,0,false)\/(0<=(eJ t b).1/\(eJ t b).1<=1000000000/\1<=(eJ t b).2.1/\(eJ t b).2.1<=t.size):=by
 simp only [eJ]
 cases within b 0 t.size with
 | false=>exact .inl rfl
 | true=>exact DR t _ _ _ _ _
def fM (t:ByteArray) (b:Int):ByteArray×Int×Bool :=
 bif ((!(eJ t b).2.2)||decide (20000<(eJ t b).1))||decide ((t.size:Int)-(eJ t b).2.1<(eJ t b).1) then (eS,0,false) else
 (t.extract (eJ t b).2.1.toNat ((eJ t b).2.1+(eJ t b).1).toNat,(eJ t b).2.1+(eJ t b).1,true)
theorem EF {n:Nat} (hn:bq<=n) (t:ByteArray) (ht:t.size<=cO) (b:Int) (k:ByteArray->Int->Bool->Option R):o4 n t b k=k (fM t b).1 (fM t b).2.1 (fM t b).2.2:=by
 have JA:t.size<=2097152:=ht
 simp only [o4,fM]
 rw [Jm hn t ht]
 rcases uT t b with h | ⟨h1,h2,h3,h4⟩
 ·rw [h]; rfl
 ·generalize eJ t b=r at *
  rw [cq (n:=(t.size:Int)-r.2.1) (by omega) (by omega),cq (n:=r.2.1+r.1) (by omega) (by omega)]
  cases hc:((!r.2.2)||decide (20000<r.1))||decide ((t.size:Int)-r.2.1<r.1) with
  | true=>rfl
  | false =>
   simp only [Bool.or_eq_false_iff,decide_eq_false_iff_not] at hc
   simp only [zF]
   rw [aj (by simp only [jX,zB,zD]; omega)]
theorem zg (t:ByteArray) (b:Int):(fM t b)=(eS,0,false)\/((fM t b).1.size<=t.size/\1<=(fM t b).2.1/\(fM t b).2.1<=t.size):=by
 simp only [fM]
 rcases uT t b with h | ⟨h1,h2,h3,h4⟩
 ·rw [h]; exact .inl rfl
 ·generalize eJ t b=r at *
  cases hc:((!r.2.2)||decide (20000<r.1))||decide ((t.size:Int)-r.2.1<r.1) with
  | true=>exact .inl rfl
  | false =>
   simp only [Bool.or_eq_false_iff,decide_eq_false_iff_not] at hc
   refine .inr ⟨?_,?_,?_⟩<;>simp only [zF]
   ·rw [ByteArray.size_extract]; omega
   ·omega
   ·omega
def S6 (s:ByteArray):Nat->Int->List Slot->Option (List Slot)
 | 0,_,acc=>some acc
 | f+1,at',acc=>bif decide (at'<(s.size:Int)) then
   bif (fM s (at'+1)).2.2 then S6 s f (fM s (at'+1)).2.1 (acc++[⟨(fM s (at'+1)).1,bt s at'.toNat⟩]) else none
  else some acc
def lX (b:Block) (s:ByteArray):Block×Bool:=bif (!bw b)|| !(nW b==s) then (⟨false,[],eS⟩,false) else (b,true)
def kU (s:ByteArray):Block×Bool:=bif s==eS then (⟨false,[],eS⟩,false) else
 bif bt s 0==100 then (match S6 s 4 1 [] with | none=>(⟨false,[],eS⟩,false) | some l=>lX ⟨true,l,eS⟩ s) else lX ⟨false,[],s.extract 1 s.size⟩ s
theorem wI {n:Nat} (hn:bq<=n) (s:ByteArray) (hs:s.size<=cO) (q0:Bool->Bool->ByteArray->List Slot->Option R) (q1:List Slot->Option R):∀ (f i m:Nat) (a:Int) (acc:List Slot),i+f=4->f<m->1<=a->acc.length=i->(∀ x∈acc,x.Name.size<=s.size) ->
  gS n s q0 q1 m a (i:Int) acc=(match S6 s f a acc with | none=>q0 false false eS [] | some l=>q1 l)/\∀ l,S6 s f a acc=some l->l.length<=4/\∀ x∈l,x.Name.size<=s.size
 | f,i,0,a,acc,h1,h2,h3,h4,h5=>by omega
 | 0,i,m+1,a,acc,h1,h2,h3,h4,h5=>by
  simp only [gS,S6]
  rw [show decide ((i:Int)<4)=false by simp; omega,Bool.false_and]
  exact ⟨rfl,fun l hl=>by cases hl; exact ⟨by omega,h5⟩⟩
 | f+1,i,m+1,a,acc,h1,h2,h3,h4,h5=>by
  have Fu:s.size<=2097152:=hs
  simp only [gS,S6]
  rw [show decide ((i:Int)<4)=true by rw [zD]; omega,Bool.true_and]
  cases hc:decide (a<(s.size:Int)) with
  | false=>exact ⟨rfl,fun l hl=>by cases hl; exact ⟨by omega,h5⟩⟩
  | true =>
   rw [zD] at hc
   have hb:=yD s a.toNat
   simp only [zE]
   rw [cq (n:=a+1) (by omega) (by omega),EF hn s hs]
   rcases zg s (a+1) with h | ⟨r1,r2,r3⟩
   ·rw [h]; exact ⟨rfl,fun l hl=>by cases hl⟩
   ·generalize fM s (a+1)=r at *
    cases hr:r.2.2 with
    | false=>exact ⟨rfl,fun l hl=>by cases hl⟩
    | true =>
     simp only [zM,zF,zE]
     rw [aj (by simp only [aZ,zB,zD]; omega),ee (n:=bt s a.toNat) (by omega),aj (cm (i:=i) (by omega) (by omega) (by simp)),bM (by omega)]
     exact wI hn s hs q0 q1 f (i+1) m r.2.1 _ (by omega) (by omega) r2 (by rw [zK,h4,zL]) (fun x hx=>by
      rcases zH.1 hx with hx | hx
      ·exact h5 x hx
      ·rw [zS] at hx; subst hx; exact r1)
theorem Ez {n:Nat} (hn:bq<=n) (s:ByteArray) (hs:s.size<=cO) (k:Block->Bool->Option R):o8 n s k=k (kU s).1 (kU s).2:=by
 have Fu:s.size<=2097152:=hs
 simp only [o8,kU]
 cases h0:s==eS with
 | true=>rfl
 | false =>
  have hp:0<s.size:=Nat.pos_of_ne_zero fun z=>by
   rw [beq_eq_false_iff_ne] at h0
   apply h0
   apply ByteArray.ext
   exact Array.eq_empty_of_size_eq_zero z
  simp only [zF]
  rw [aj (by simp only [xf,zB,zD]; omega),aj (by simp only [aZ,zB,zD]; omega),show (100:Int)=((100:Nat):Int) from rfl,cG]
  have back:∀ (b:Block),tB b->∀ k:Block->Bool->Option R,(g7 n b fun r cZ=>bif (!cZ)||(!(r==s)) then k ⟨false,[],eS⟩ false else k b true)=k (lX b s).1 (lX b s).2:=fun b hb k=>by
   rw [wY hn b hb]
   simp only [lX]
   cases (!bw b)||(!(nW b==s))<;>rfl
  cases bt s 0==100 with
  | true =>
   simp only [zE]
   have:=wI (R:=R) hn s hs (fun x v eF dx=>k ⟨v,dx,eF⟩ x) (fun fX=>g7 n ⟨true,fX,eS⟩ fun r cZ=>bif (!cZ)||(!(r==s)) then k ⟨false,[],eS⟩ false else k ⟨true,fX,eS⟩ true) 4 0 n 1 [] rfl (aO hn (by omega)) (by decide) rfl (fun x hx=>by cases hx)
   refine this.1.trans ?_
   cases hl:S6 s 4 1 [] with
   | none=>rfl
   | some l =>
    have h2:=this.2 l hl
    exact back _ ⟨Nat.le_trans h2.1 (by decide),by show eS.size<=cO; decide,fun x hx=>Nat.le_trans (h2.2 x hx) hs⟩ k
  | false =>
   simp only [zF]
   exact back _ ⟨Nat.zero_le _,by show (s.extract 1 s.size).size<=cO; rw [ByteArray.size_extract]; exact Nat.le_trans (by omega) hs,fun x hx=>by cases hx⟩ k
theorem E3 (s:ByteArray):bw (kU s).1=true:=by
 have h0:bw ⟨false,[],eS⟩=true:=rfl
 have hb:∀ b,bw (lX b s).1=true:=fun b=>by
  simp only [lX]
  cases h:bw b with
  | false=>exact h0
  | true=>cases nW b==s<;>first | exact h0 | exact h
 simp only [kU]
 cases s==eS with
 | true=>exact h0
 | false =>
  cases bt s 0==100 with
  | true =>
   simp only [zE,zF]
   cases S6 s 4 1 [] with
   | none=>exact h0
   | some l=>exact hb _
  | false=>exact hb _
def tH (s:ByteArray) (j:Nat):aR:=bif s.size==8 then (bif (gT (s.extract (4*j) (4*j+4))).2 then (gT (s.extract (4*j) (4*j+4))).1 else aY 0) else aY 0
def jh (d:Device) (u:Nat):ByteArray:=d.cp.getD u eS
def Bu (d:Device):au:=bif (mL (jh d 0)).2 then (mL (jh d 0)).1 else ⟨List.replicate 16 true,List.replicate 8 true⟩
def mI (d:Device):aa:=⟨Bu d,(List.range' 0 8).map fun i=>tH (jh d (1+i/2)) (i % 2),(List.range' 0 16).map fun i=>(kU (jh d (5+i))).1⟩
def EK (d:Device):aa×Bool:=bif dX d then (mI d,true) else (⟨⟨[],[]⟩,[],[]⟩,false)
theorem EG (s:ByteArray) (h:(gT s).2=true):bj (gT s).1=true:=by
 revert h
 simp only [gT]
 cases hc:(s.size==4)&&bj (sY s) with
 | false=>intro h; cases h
 | true=>intro _; rw [zB] at hc; exact hc.2
theorem ID (s:ByteArray) (j:Nat):bj (tH s j)=true:=by
 simp only [tH]
 cases s.size==8 with
 | false=>rfl
 | true =>
  simp only [zE]
  cases h:(gT (s.extract (4*j) (4*j+4))).2 with
  | false=>rfl
  | true=>exact EG _ h
theorem Ia (d:Device):(Bu d).ab.length=16/\(Bu d).bB.length=8:=by
 simp only [Bu,mL]
 cases (jh d 0).size==3 with
 | false=>exact ⟨rfl,rfl⟩
 | true=>exact ⟨by simp,by simp⟩
theorem ko.of (d:Device):ko (mI d):=by
 have:=Ia d
 refine ⟨this.1,this.2,by simp [mI],by simp [mI],fun x hx=> ?_,fun b hb=> ?_⟩
 ·simp only [mI,List.mem_map] at hx
  obtain ⟨i,_,rfl⟩:=hx
  exact ID _ _
 ·simp only [mI,List.mem_map] at hb
  obtain ⟨i,_,rfl⟩:=hb
  exact E3 _
theorem Ru (q:List Bool->Option R):∀ (b a:List Bool) (n:Nat),a.length+b.length<=1000->b.length<n->jm q n (a.length:Int) (a++b)=q (a++b.map fun _=>true):=fun b a n h1 h2 =>
 jD (R:=R) (L:=jm q) (f:=fun _=>true) (B:=0) (q:=q) (fun m a b x _ h=>by
  have s:(a++x::b).set a.length true=a++true::b:=nD true rfl
  simp only [jm,zC,s,aG]
  rw [show decide ((a.length:Int)<((a++x::b).length:Int))=true by simp; omega,show decide (a.length<(a++x::b).length)=true by simp]
  rfl) (fun m a=>by simp [jm]) b a n (by omega) (by omega)
theorem Nt (q:List Bool->Option R):∀ (b a:List Bool) (n:Nat),a.length+b.length<=1000->b.length<n->ib q n (a.length:Int) (a++b)=q (a++b.map fun _=>true):=fun b a n h1 h2 =>
 jD (R:=R) (L:=ib q) (f:=fun _=>true) (B:=0) (q:=q) (fun m a b x _ h=>by
  have s:(a++x::b).set a.length true=a++true::b:=nD true rfl
  simp only [ib,zC,s,aG]
  rw [show decide ((a.length:Int)<((a++x::b).length:Int))=true by simp; omega,show decide (a.length<(a++x::b).length)=true by simp]
  rfl) (fun m a=>by simp [ib]) b a n (by omega) (by omega)
theorem II {n:Nat} (hn:bq<=n) (d:Device) (h:d.cp.length=21) (q:List aR->Option R):eK n d.cp q n 0 []=q ((List.range' 0 8).map fun i=>tH (jh d (1+i/2)) (i % 2)):=by
 refine qp (R:=R) (L:=eK n d.cp q) (N:=8) (f:=fun i=>tH (jh d (1+i/2)) (i % 2)) (B:=0) (q:=q) (by omega) (fun m i acc _ hi ha=> ?_) (fun m acc=>by simp [eK]) 8 0 n [] rfl rfl (aO hn (by omega))
 simp only [eK]
 rw [show decide ((i:Int)<8)=true by rw [zD]; omega,bK,Int.tdiv_eq_ediv_of_nonneg (by omega),Int.tmod_eq_emod_of_nonneg (by omega),show (i:Int)/2=((i/2:Nat):Int) by omega,show (i:Int) % 2=((i % 2:Nat):Int) by omega,
  ee (n:=i/2) (by omega),show (1:Int)+((i/2:Nat):Int)=((1+i/2:Nat):Int) by omega,ee (n:=1+i/2) (by omega),show (4:Int)*((i % 2:Nat):Int)=((4*(i % 2):Nat):Int) by omega,ee (n:=4*(i % 2)) (by omega),
  show ((4*(i % 2):Nat):Int)+4=((4*(i % 2)+4:Nat):Int) by omega,ee (n:=4*(i % 2)+4) (by omega),aG,h,show decide (1+i/2<21)=true by rw [zD]; omega,bf,jf]
 simp only [zC]
 rw [show (8:Int)=((8:Nat):Int) from rfl,cG]
 have VG:∀ y:aR,bg (acc++[y])=true:=fun y=>cm (i:=i) (by omega) (by omega) (by simp)
 show (bif (jh d (1+i/2)).size==8 then _ else _)=_
 simp only [tH]
 cases h8:(jh d (1+i/2)).size==8 with
 | false=>simp only [zF]; rw [aj (VG _)]
 | true =>
  have X5:(jh d (1+i/2)).size=8:=by simpa using h8
  simp only [zE]
  rw [aj (by show jX _ _ (jh d (1+i/2)).size=true; rw [X5]; simp only [jX,zB,zD]; omega),E1 hn]
  show (bif (gT ((jh d (1+i/2)).extract (4*(i % 2)) (4*(i % 2)+4))).2 then _ else _)=_
  cases (gT ((jh d (1+i/2)).extract (4*(i % 2)) (4*(i % 2)+4))).2 with
  | true=>simp only [zE]; rw [aj (VG _)]; rfl
  | false=>simp only [zF]; rw [aj (VG _)]
theorem Io {n:Nat} (hn:bq<=n) (d:Device) (h:d.cp.length=21) (hs:∀ s∈d.cp,s.size<=cO) (q:List Block->Option R):gA n d.cp q n 0 []=q ((List.range' 0 16).map fun i=>(kU (jh d (5+i))).1):=by
 refine qp (R:=R) (L:=gA n d.cp q) (N:=16) (f:=fun i=>(kU (jh d (5+i))).1) (B:=0) (q:=q) (by omega) (fun m i acc _ hi ha=> ?_) (fun m acc=>by simp [gA]) 16 0 n [] rfl rfl (aO hn (by omega))
 simp only [gA]
 rw [show decide ((i:Int)<16)=true by rw [zD]; omega,bK,show (5:Int)+(i:Int)=((5+i:Nat):Int) by omega,ee (n:=5+i) (by omega),aG,h,show decide (5+i<21)=true by rw [zD]; omega,bf,zC]
 refine (Ez hn _ (hs _ (aV eS (by omega))) _).trans ?_
 rw [aj (cm (i:=i) (by omega) (by omega) (by simp))]
 rfl
theorem Nu {d:Device} (h:dX d=true):∀ s∈d.cp,s.size<=60:=fun s hs=>by
 simp only [dX,zB,List.all_eq_true] at h
 have:=h.1 s hs
 simp only [DZ,Bool.not_eq_true',decide_eq_false_iff_not] at this
 omega
theorem Lb {n:Nat} (hn:bq<=n) (d:Device) (hd:d.cp.length<=cO) (k:aa->Bool->Option R):og n d k=k (EK d).1 (EK d).2:=by
 simp only [og,EK]
 rw [sV hn d hd]
 cases h:dX d with
 | false=>rfl
 | true =>
  have SE:=NF h
  have mn:∀ s∈d.cp,s.size<=cO:=fun s hs=>Nat.le_trans (Nu h s hs) (by decide)
  simp only [zM,zF,zE]
  rw [aj (by rw [SE]; rfl),G8 hn]
  have l17:=fun q=>II (R:=R) hn d SE q
  have l27:=fun q=>Io (R:=R) hn d SE mn q
  show (bif !(mL (jh d 0)).2 then _ else _)=_
  simp only [mI,Bu]
  cases (mL (jh d 0)).2 with
  | true =>
   simp only [zM,zF,zE]
   rw [l17,l27]; rfl
  | false =>
   simp only [zN,zF,zE,lS]
   rw [aj (by rfl)]
   refine (Ru _ (List.replicate 16 false) [] n (by decide) (aO hn (by decide))).trans ?_
   refine (Nt _ ((List.replicate 8 false).set 0 true) [] n (by decide) (aO hn (by decide))).trans ?_
   rw [l17,l27]; rfl
def lj (l:List Node):List ByteArray:=eS::(l.filter (·.bZ)).map (·.Path)
def fx (l:List Node):List ByteArray:=(l.filter fun x=> !x.bZ).map (·.Path)
def vz (l:List Node) (p:ByteArray):Prop:=∃ d∈lj l,∃ x∈pD,p=(d++S [47])++x
def IA:List ByteArray:=[eS,S [120],S [104,101,108,108,111],S [48,49,50,51,52,53,54,55,56,57,97,98,99,100,101,102]]
inductive lb (l:List Node):Event->Prop
 | make (k:Int) (p:ByteArray):k=1\/k=2->vz l p->lb l ⟨k,p,eS,0,eS⟩
 | write (p:ByteArray) (a:Int) (t:ByteArray):(p∈fx l\/p=S [47,97])->a=0\/a=1->t∈IA->lb l ⟨3,p,eS,a,t⟩
 | remove (p:ByteArray):(p∈l.map (·.Path)\/p=S [47,98])->lb l ⟨4,p,eS,0,eS⟩
 | move (p q:ByteArray):(p∈fx l\/p=S [47,97])->vz l q->lb l ⟨5,p,q,0,eS⟩
 | back (u:Int):0<=u->u<=20->lb l ⟨6,eS,eS,u,eS⟩
 | flush:lb l ⟨7,eS,eS,0,eS⟩
theorem Q7 {n:Nat} (hn:bq<=n) (l:List Node) (hl:l.length<=1048576) (q:List ByteArray->List ByteArray->List ByteArray->Option R):fm l q n 0 [] [eS] []=q (fx l) (lj l) (l.map (·.Path)):=by
 have key:∀ (r i m:Nat) (a b c:List ByteArray),i+r=l.length->r<m->a.length<=i->b.length<=i+1->c.length<=i ->
   fm l q m (i:Int) a b c=q (a++((l.drop i).filter fun x=> !x.bZ).map (·.Path)) (b++((l.drop i).filter (·.bZ)).map (·.Path)) (c++(l.drop i).map (·.Path)):=by
  intro r
  induction r with
  | zero =>
   intro i m a b c h1 h2 h3 h4 h5
   cases m with
   | zero=>omega
   | succ m =>
    have:i=l.length:=by omega
    subst this
    simp [fm]
  | succ r ih =>
   intro i m a b c h1 h2 h3 h4 h5
   cases m with
   | zero=>omega
   | succ m =>
    have hi:i<l.length:=by omega
    simp only [fm,bk,aG,hi,zV,zE,bf,zC]
    rw [aj (cm (i:=i) h5 (by omega) (by simp)),bM (by omega),cQ eA hi]
    generalize l.getD i eA=el
    cases hd:el.bZ with
    | true =>
     simp only [zE]
     rw [aj (cm (i:=i+1) h4 (by omega) (by simp)),ih (i+1) m _ _ _ (by omega) (by omega) (by omega) (by rw [zK,zL]; omega) (by rw [zK,zL]; omega)]
     simp [List.filter_cons,hd]
    | false =>
     simp only [zF]
     rw [aj (cm (i:=i) h3 (by omega) (by simp)),ih (i+1) m _ _ _ (by omega) (by omega) (by rw [zK,zL]; omega) (by omega) (by rw [zK,zL]; omega)]
     simp [List.filter_cons,hd]
 exact key l.length 0 n [] [eS] [] (by omega) (aO hn (by omega)) (by simp) (by simp) (by simp)
theorem NQ {n:Nat} (hn:bq<=n) (y:List Bool) (hy:y.length=21):∃ l:List Int,l.length<=21/\(∀ u∈l,0<=u/\u<=20)/\∀ q:List Int->Option R,c9 y q n 0 []=q l:=by
 have key:∀ (r i:Nat) (a:List Int),i+r=21->a.length<=i->(∀ u∈a,0<=u/\u<=20)->∃ l:List Int,l.length<=21/\(∀ u∈l,0<=u/\u<=20)/\∀ (m:Nat) (q:List Int->Option R),r<m->c9 y q m (i:Int) a=q l:=by
  intro r
  induction r with
  | zero =>
   intro i a h1 h2 h3
   refine ⟨a,by omega,h3,fun m q hm=> ?_⟩
   cases m with
   | zero=>omega
   | succ m=>simp only [c9,bk,hy]; rw [show decide (i<21)=false by simp; omega]; rfl
  | succ r ih =>
   intro i a h1 h2 h3
   have hi:i<y.length:=by omega
   cases hb:y.getD i false with
   | true =>
    obtain ⟨l,l1,l2,l3⟩:=ih (i+1) (a++[(i:Int)]) (by omega) (by rw [zK,zL]; omega) (fun u hu=>by
     rcases zH.1 hu with hu | hu
     ·exact h3 u hu
     ·rw [zS] at hu; subst hu; omega)
    refine ⟨l,l1,l2,fun m q hm=> ?_⟩
    cases m with
    | zero=>omega
    | succ m =>
     simp only [c9,bk,aG,hi,zV,zE,bf,zC,hb]
     rw [aj (cm (i:=i) h2 (by omega) (by simp)),bM (by omega)]
     exact l3 m q (by omega)
   | false =>
    obtain ⟨l,l1,l2,l3⟩:=ih (i+1) a (by omega) (by omega) h3
    refine ⟨l,l1,l2,fun m q hm=> ?_⟩
    cases m with
    | zero=>omega
    | succ m =>
     simp only [c9,bk,aG,hi,zV,zE,zF,bf,zC,hb]
     rw [bM (by omega)]
     exact l3 m q (by omega)
 obtain ⟨l,l1,l2,l3⟩:=key 21 0 [] rfl (by simp) (fun u hu=>by cases hu)
 exact ⟨l,l1,l2,fun q=>l3 n q (aO hn (by omega))⟩
theorem sH {x:ByteArray} (h:x∈pD):x.size<=2:=by
 simp only [pD,zI,List.not_mem_nil,or_false] at h
 rcases h with rfl | rfl | rfl | rfl | rfl<;>decide
theorem Mz {n:Nat} (hn:bq<=n) (w:World) (hl:w.Model.length<=1048576) (hp:∀ x∈w.Model,x.Path.size<=1000) (hy:w.Fs.Mem.an.length=21) (c:et) (hc:ur c):∃ e c',Cn c c'/\lb w.Model e/\∀ k:Event->et->Option R,ej n w c k=k e c':=by
 obtain ⟨r,c1,hr,cf,e1⟩:=fq (R:=R) [1,1,1,2,2,3,3,3,4,4,5,5,6,6,6,6,6,6,6,7] (by decide) (by decide) c hc
 have Ck:(lj w.Model).length<=1048577:=by simp only [lj,zR,List.length_map]; have:=List.length_filter_le (·.bZ) w.Model; omega
 have Aa:(fx w.Model).length<=1048576:=by simp only [fx,List.length_map]; have:=List.length_filter_le (fun x=> !x.bZ) w.Model; omega
 have Wq:0<(lj w.Model).length:=by simp [lj]
 obtain ⟨a,c2,a1,a2,fJ,e2⟩:=bz (R:=R) ((lj w.Model).length:Int) (by omega) (by omega) c1 cf.1
 obtain ⟨x,c3,hx,ja,e3⟩:=Dn (R:=R) c2 fJ.1
 have Zc:=aV eS (show a.toNat<(lj w.Model).length by omega)
 generalize Jw:(lj w.Model).getD a.toNat eS=d at Zc
 have hF:vz w.Model ((d++S [47])++x):=⟨d,Zc,x,hx,rfl⟩
 have hds:d.size<=1000:=by
  simp only [lj,zI,List.mem_map,List.mem_filter] at Zc
  rcases Zc with rfl | ⟨z,hz,rfl⟩
  ·decide
  ·exact hp z hz.1
 have hS:(S [47]).size=1:=rfl
 have Tv:=sH hx
 have ok1:mi d (S [47])=true:=iO (by omega)
 have ok2:mi (d++S [47]) x=true:=iO (by rw [ByteArray.size_append]; omega)
 have b2:=cf.tr fJ
 have b3:=b2.tr ja
 have inA:aZ a (lj w.Model).length=true:=by simp only [aZ,zB,zD]; omega
 have start:∀ (r':Int) (K:List ByteArray->List ByteArray->List ByteArray->Option R),fm w.Model K n 0 [] [eS] []=K (fx w.Model) (lj w.Model) (w.Model.map (·.Path)):=fun _ K=>Q7 hn w.Model hl K
 have cy:r=1\/r=2\/r=3\/r=4\/r=5\/r=6\/r=7:=by
  simp only [zI,List.not_mem_nil,or_false] at hr; omega
 rcases cy with rfl | rfl | rfl | rfl | rfl | rfl | rfl
 ·refine ⟨_,c3,b3,.make 1 _ (.inl rfl) hF,fun k=> ?_⟩
  simp only [ej]
  rw [e1,start 0,cf.mk',e2,aj inA,Jw,aj ok1,b2.mk',e3,aj ok2,b3.mk']; rfl
 ·refine ⟨_,c3,b3,.make 2 _ (.inr rfl) hF,fun k=> ?_⟩
  simp only [ej]
  rw [e1,start 0,cf.mk',e2,aj inA,Jw,aj ok1,b2.mk',e3,aj ok2,b3.mk']; rfl
 ·by_cases hf:0<(fx w.Model).length
  ·obtain ⟨f,c4,f1,f2,vJ,e4⟩:=bz (R:=R) ((fx w.Model).length:Int) (by omega) (by omega) c3 ja.1
   have b4:=b3.tr vJ
   obtain ⟨t,c5,ht,zt,e5⟩:=tO (R:=R) IA (by decide) (by decide) c4 vJ.1
   have b5:=b4.tr zt
   obtain ⟨z,c6,z1,z2,K0,e6⟩:=bz (R:=R) 2 (by decide) (by decide) c5 zt.1
   have b6:=b5.tr K0
   refine ⟨_,c6,b6,.write ((fx w.Model).getD f.toNat eS) z t (.inl (aV eS (by omega))) (by omega) ht,fun k=> ?_⟩
   simp only [ej]
   rw [e1,start 0,cf.mk',e2,aj inA,Jw,aj ok1,b2.mk',e3,aj ok2,b3.mk']
   simp only [show ((3:Int)==1)=false from rfl,show ((3:Int)==2)=false from rfl,show ((3:Int)==3)=true from rfl,show ((3:Int)==5)=false from rfl,zF,zE]
   rw [decide_eq_true (show (0:Int)<((fx w.Model).length:Int) by omega),bK,e4,aj (by simp only [aZ,zB,zD]; omega),b4.mk']
   refine (e5 _).trans ?_
   rw [b5.mk',e6,b6.mk']
  ·obtain ⟨t,c5,ht,zt,e5⟩:=tO (R:=R) IA (by decide) (by decide) c3 ja.1
   have b5:=b3.tr zt
   obtain ⟨z,c6,z1,z2,K0,e6⟩:=bz (R:=R) 2 (by decide) (by decide) c5 zt.1
   have b6:=b5.tr K0
   refine ⟨_,c6,b6,.write (S [47,97]) z t (.inr rfl) (by omega) ht,fun k=> ?_⟩
   simp only [ej]
   rw [e1,start 0,cf.mk',e2,aj inA,Jw,aj ok1,b2.mk',e3,aj ok2,b3.mk']
   simp only [show ((3:Int)==1)=false from rfl,show ((3:Int)==2)=false from rfl,show ((3:Int)==3)=true from rfl,show ((3:Int)==5)=false from rfl,zF,zE]
   rw [decide_eq_false (show ¬ (0:Int)<((fx w.Model).length:Int) by omega),br]
   refine (e5 _).trans ?_
   rw [b5.mk',e6,b6.mk']
 ·by_cases hf:0<w.Model.length
  ·have Ue:(w.Model.map (·.Path)).length=w.Model.length:=List.length_map _
   obtain ⟨f,c4,f1,f2,vJ,e4⟩:=bz (R:=R) ((w.Model.map (·.Path)).length:Int) (by omega) (by omega) c3 ja.1
   have b4:=b3.tr vJ
   refine ⟨_,c4,b4,.remove ((w.Model.map (·.Path)).getD f.toNat eS) (.inl (aV eS (by omega))),fun k=> ?_⟩
   simp only [ej]
   rw [e1,start 0,cf.mk',e2,aj inA,Jw,aj ok1,b2.mk',e3,aj ok2,b3.mk']
   simp only [show ((4:Int)==1)=false from rfl,show ((4:Int)==2)=false from rfl,show ((4:Int)==3)=false from rfl,show ((4:Int)==4)=true from rfl,show ((4:Int)==5)=false from rfl,zF,zE]
   rw [decide_eq_true (show (0:Int)<((w.Model.map (·.Path)).length:Int) by omega),bK,e4,aj (by simp only [aZ,zB,zD]; omega),b4.mk']
  ·refine ⟨_,c3,b3,.remove (S [47,98]) (.inr rfl),fun k=> ?_⟩
   simp only [ej]
   rw [e1,start 0,cf.mk',e2,aj inA,Jw,aj ok1,b2.mk',e3,aj ok2,b3.mk']
   simp only [show ((4:Int)==1)=false from rfl,show ((4:Int)==2)=false from rfl,show ((4:Int)==3)=false from rfl,show ((4:Int)==4)=true from rfl,show ((4:Int)==5)=false from rfl,zF,zE]
   rw [decide_eq_false (show ¬ (0:Int)<((w.Model.map (·.Path)).length:Int) by rw [List.length_map]; omega),br]
 ·by_cases hf:0<(fx w.Model).length
  ·obtain ⟨f,c4,f1,f2,vJ,e4⟩:=bz (R:=R) ((fx w.Model).length:Int) (by omega) (by omega) c3 ja.1
   have b4:=b3.tr vJ
   refine ⟨_,c4,b4,.move ((fx w.Model).getD f.toNat eS) _ (.inl (aV eS (by omega))) hF,fun k=> ?_⟩
   simp only [ej]
   rw [e1,start 0,cf.mk',e2,aj inA,Jw,aj ok1,b2.mk',e3,aj ok2,b3.mk']
   simp only [show ((5:Int)==1)=false from rfl,show ((5:Int)==2)=false from rfl,show ((5:Int)==3)=false from rfl,show ((5:Int)==5)=true from rfl,zF,zE]
   rw [decide_eq_true (show (0:Int)<((fx w.Model).length:Int) by omega),bK,e4,aj (by simp only [aZ,zB,zD]; omega),b4.mk']
  ·refine ⟨_,c3,b3,.move (S [47,97]) _ (.inr rfl) hF,fun k=> ?_⟩
   simp only [ej]
   rw [e1,start 0,cf.mk',e2,aj inA,Jw,aj ok1,b2.mk',e3,aj ok2,b3.mk']
   simp only [show ((5:Int)==1)=false from rfl,show ((5:Int)==2)=false from rfl,show ((5:Int)==3)=false from rfl,show ((5:Int)==5)=true from rfl,zF,zE]
   rw [decide_eq_false (show ¬ (0:Int)<((fx w.Model).length:Int) by omega),br]
 ·obtain ⟨u,c4,u1,u2,vJ,e4⟩:=bz (R:=R) 21 (by decide) (by decide) c3 ja.1
  have b4:=b3.tr vJ
  obtain ⟨dl,d1,d2,d3⟩:=NQ (R:=R) hn w.Fs.Mem.an hy
  obtain ⟨o,c5,zt,e5⟩:=fK (R:=R) 6 (by decide) (by decide) c4 vJ.1
  have b5:=b4.tr zt
  by_cases hz:0<dl.length
  ·cases o with
   | false =>
    obtain ⟨f,c6,f1,f2,K0,e6⟩:=bz (R:=R) (dl.length:Int) (by omega) (by omega) c5 zt.1
    have b6:=b5.tr K0
    have hm:=d2 _ (aV 0 (show f.toNat<dl.length by omega))
    refine ⟨_,c6,b6,.back (dl.getD f.toNat 0) hm.1 hm.2,fun k=> ?_⟩
    simp only [ej]
    rw [e1,start 0,cf.mk',e2,aj inA,Jw,aj ok1,b2.mk',e3,aj ok2,b3.mk']
    simp only [show ((6:Int)==1)=false from rfl,show ((6:Int)==2)=false from rfl,show ((6:Int)==3)=false from rfl,show ((6:Int)==4)=false from rfl,show ((6:Int)==5)=false from rfl,show ((6:Int)==6)=true from rfl,zF,zE]
    rw [e4,d3,b4.mk',e5,decide_eq_true (show (0:Int)<(dl.length:Int) by omega)]
    simp only [zE,zN,Bool.and_self]
    rw [b5.mk',e6,aj (by simp only [aZ,zB,zD]; omega),b6.mk']
   | true =>
    refine ⟨_,c5,b5,.back u u1 (by omega),fun k=> ?_⟩
    simp only [ej]
    rw [e1,start 0,cf.mk',e2,aj inA,Jw,aj ok1,b2.mk',e3,aj ok2,b3.mk']
    simp only [show ((6:Int)==1)=false from rfl,show ((6:Int)==2)=false from rfl,show ((6:Int)==3)=false from rfl,show ((6:Int)==4)=false from rfl,show ((6:Int)==5)=false from rfl,show ((6:Int)==6)=true from rfl,zF,zE]
    rw [e4,d3,b4.mk',e5,decide_eq_true (show (0:Int)<(dl.length:Int) by omega)]
    simp only [zE,zM,Bool.and_false,zF]
    rw [b5.mk']
  ·refine ⟨_,c4,b4,.back u u1 (by omega),fun k=> ?_⟩
   simp only [ej]
   rw [e1,start 0,cf.mk',e2,aj inA,Jw,aj ok1,b2.mk',e3,aj ok2,b3.mk']
   simp only [show ((6:Int)==1)=false from rfl,show ((6:Int)==2)=false from rfl,show ((6:Int)==3)=false from rfl,show ((6:Int)==4)=false from rfl,show ((6:Int)==5)=false from rfl,show ((6:Int)==6)=true from rfl,zF,zE]
   rw [e4,d3,b4.mk',e5,decide_eq_false (show ¬ (0:Int)<(dl.length:Int) by omega)]
   simp only [zF,Bool.false_and]
   rw [b4.mk']
 ·refine ⟨_,c3,b3,.flush,fun k=> ?_⟩
  simp only [ej]
  rw [e1,start 0,cf.mk',e2,aj inA,Jw,aj ok1,b2.mk',e3,aj ok2,b3.mk']; rfl
def SP (k:Nat) (p:ByteArray):Prop:=∃ l:List ByteArray,p=eO l/\l.length<=k/\∀ y∈l,y∈pD
theorem yf {x:ByteArray} (h:x∈pD):bH x=true:=by
 simp only [pD,zI,List.not_mem_nil,or_false] at h
 rcases h with rfl | rfl | rfl | rfl | rfl<;>decide
theorem SP.size {k:Nat} {p:ByteArray} (h:SP k p):p.size<=3*k:=by
 obtain ⟨l,rfl,hl,hn⟩:=h
 have:∀ (l:List ByteArray) (a:ByteArray),(∀ y∈l,y∈pD)->(l.foldl (fun s x=>(s++S [47])++x) a).size<=a.size+3*l.length:=by
  intro l
  induction l with
  | nil=>intro a _; simp
  | cons x l ih =>
   intro a h
   have h1:=sH (h x zO)
   have h2:=ih ((a++S [47])++x) fun y hy=>h y (zJ _ hy)
   have h3:(S [47]).size=1:=rfl
   rw [List.foldl_cons,zR]
   rw [ByteArray.size_append,ByteArray.size_append,h3] at h2
   omega
 have:=this l eS hn
 rw [J1] at this
 show (eO l).size<=_
 simp only [eO]; omega
theorem SP.snoc {k:Nat} {p x:ByteArray} (h:SP k p) (hx:x∈pD):SP (k+1) ((p++S [47])++x):=by
 obtain ⟨l,rfl,b,c⟩:=h
 refine ⟨l++[x],by simp only [eO,List.foldl_append,List.foldl_cons,List.foldl_nil],by simp; omega,fun y hy=> ?_⟩
 rcases zH.1 hy with hy | hy
 ·exact c y hy
 ·rw [zS] at hy; subst hy; exact hx
theorem AW {l:List ByteArray} (h:∀ y∈l,bH y=true) (h4:4<l.length):(aN (eO l)).2=false:=by
 match l,h4 with
 | x::xs,h4 =>
  have hx:=h x zO
  have hb:(eO (x::xs)).data.toList=47::(x.data.toList++uC xs):=oe _
  have cL:∃ c t,x.data.toList=c::t:=by
   have:=(eP hx).1
   cases hd:x.data.toList with
   | nil=>rw [size_eq,hd] at this; simp at this
   | cons c t=>exact ⟨c,t,rfl⟩
  obtain ⟨c,t,dg⟩:=cL
  have hs:oy [] (x.data.toList++uC xs)=x::xs:=by
   rw [vX _ _ _ (qm hx),List.nil_append,x8 xs _ fun z hz=>h z (zJ _ hz)]
   rfl
  simp only [aN,hb,beq_self_eq_true,zE]
  rw [dg,List.cons_append] at hs ⊢
  simp only [hs]
  rw [show decide ((x::xs).length<=4)=false by simp only [decide_eq_false_iff_not]; omega,Bool.and_false]; rfl
theorem SP.cut {k:Nat} {p:ByteArray} (h:SP k p) (hs:(aN p).2=true):SP 4 p:=by
 obtain ⟨l,rfl,b,c⟩:=h
 refine ⟨l,rfl,Decidable.byContradiction fun hn=> ?_,c⟩
 rw [AW (fun y hy=>yf (c y hy)) (by omega)] at hs; cases hs
def cB (m:Mem) (e:Event):Mem×Int×Bool :=
 bif e.Kind==1 then ((eT m e.Path 1).1,(eT m e.Path 1).2,true) else
 bif e.Kind==2 then ((eT m e.Path 2).1,(eT m e.Path 2).2,true) else
 bif e.Kind==3 then ((jH m e.Path e.At e.Text).1,(jH m e.Path e.At e.Text).2,true) else
 bif e.Kind==4 then ((ir m e.Path).1,(ir m e.Path).2,true) else
 bif e.Kind==5 then ((jl m e.Path e.To).1,(jl m e.Path e.To).2,true) else (m,0,false)
theorem HZ {n:Nat} (hn:bq<=n) (h:j0 m) (e:Event) (hp:e.Path.size<=cO) (hq:e.To.size<=cO) (k:Mem->Int->Bool->Option R):p9 n m e k=k (cB m e).1 (cB m e).2.1 (cB m e).2.2:=by
 have hm:=h.sz
 simp only [p9,cB]
 rw [(yA hn m hm _ hp _ _).1,(yA hn m hm _ hp _ _).1,(ES hn m hm _ hp _ _ _).1,(CD hn m hm _ hp _).1,F6 hn h _ _ hp hq]
 cases e.Kind==1<;>cases e.Kind==2<;>cases e.Kind==3<;>cases e.Kind==4<;>cases e.Kind==5<;>rfl
theorem j0.call (h:j0 m) (e:Event):j0 (cB m e).1:=by
 simp only [cB]
 have h1:=h.make e.Path 1
 have h2:=h.make e.Path 2
 have h3:=h.text e.Path e.At e.Text
 have h4:=h.remove e.Path
 have h5:=h.move e.Path e.To
 cases e.Kind==1 with
 | true=>exact h1
 | false =>
 cases e.Kind==2 with
 | true=>exact h2
 | false =>
 cases e.Kind==3 with
 | true=>exact h3
 | false =>
 cases e.Kind==4 with
 | true=>exact h4
 | false =>
 cases e.Kind==5 with
 | true=>exact h5
 | false=>exact h
def zh (e:Event) (w:World):World :=
 ⟨bif e.Kind==6 then (dv ⟨(cB w.Fs.Mem e).1,w.Fs.Device⟩ e.At).1 else bif e.Kind==7 then flush ⟨(cB w.Fs.Mem e).1,w.Fs.Device⟩ else ⟨(cB w.Fs.Mem e).1,w.Fs.Device⟩,
  bif (cB w.Fs.Mem e).2.2&&((cB w.Fs.Mem e).2.1==0) then dj w.Model e else w.Model,
  w.jk++[(cB w.Fs.Mem e).2.1],
  bif e.Kind==7 then w.Model else w.Kept⟩
theorem Mt {n:Nat} (hn:bq<=n) (e:Event) (h8:(e.Kind==8)=false) (m0:Mem) (d0:Device) (md:List Node) (cs:List Int) (kp:List Node) (h:pK ⟨m0,d0⟩) (hl:md.length<=1048576) (hp:∀ x∈md,x.Path.size<=1000) (hc:cs.length<=1000000) (he:e.Path.size<=cO) (ht:e.To.size<=cO) (k:World->Option R) :
  tM n e ⟨⟨m0,d0⟩,md,cs,kp⟩ k=k ⟨bif e.Kind==6 then (dv ⟨(cB m0 e).1,d0⟩ e.At).1 else bif e.Kind==7 then flush ⟨(cB m0 e).1,d0⟩ else ⟨(cB m0 e).1,d0⟩,bif (cB m0 e).2.2&&((cB m0 e).2.1==0) then dj md e else md,cs++[(cB m0 e).2.1],bif e.Kind==7 then md else kp⟩:=by
 have ok1:bg cs=true:=cn (by omega)
 have ok2:∀ c,bg (cs++[c])=true:=fun c=>cn (by rw [zK,zL]; omega)
 have okm:bg md=true:=cn (by omega)
 have hI:pK ⟨(cB m0 e).1,d0⟩:=⟨h.m.call e,h.d⟩
 have hwb:∀ k:Fs->Bool->Option R,g8 n ⟨(cB m0 e).1,d0⟩ e.At k=k (dv ⟨(cB m0 e).1,d0⟩ e.At).1 (dv ⟨(cB m0 e).1,d0⟩ e.At).2:=fun k=>wJ hn _ hI.m.sz (Ej hI.d) _ k
 have Aa:∀ k:Fs->Option R,oW n ⟨(cB m0 e).1,d0⟩ k=k (flush ⟨(cB m0 e).1,d0⟩):=fun k=>N9 hn _ hI k
 have hm:∀ k:List Node->Option R,lq n md e k=k (dj md e):=fun k=>CB hn _ hl (fun x hx=>Nat.le_trans (hp x hx) (by decide)) e he k
 have Nj:∀ k:Mem->Int->Bool->Option R,p9 n m0 e k=k (cB m0 e).1 (cB m0 e).2.1 (cB m0 e).2.2:=fun k=>HZ hn h.m e he ht k
 have K5:(cB m0 e).2.2=false->(cB m0 e).1=m0:=fun hf=>by
  revert hf
  simp only [cB]
  cases e.Kind==1<;>cases e.Kind==2<;>cases e.Kind==3<;>cases e.Kind==4<;>cases e.Kind==5<;>first | (intro hf; cases hf; done) | (intro _; rfl)
 have abY:(e.Kind==6)=true->(e.Kind==7)=false:=fun a=>by rw [beq_iff_eq] at a; rw [a]; rfl
 have PL:(cB m0 e).2.2=true->(e.Kind==7)=false:=fun hf=>by
  cases h7:e.Kind==7 with
  | false=>rfl
  | true =>
   rw [beq_iff_eq] at h7
   simp only [cB,h7] at hf
   cases hf
 simp only [tM,List.nil_append]
 rw [Nj]
 clear Nj hI h hp he ht
 generalize cB m0 e=c at *
 obtain ⟨c1,c2,c3⟩:=c
 simp only at K5 PL hwb Aa ⊢
 generalize dj md e=ma at *
 cases c3 with
 | true =>
  generalize dv ⟨c1,d0⟩ e.At=wb at *
  generalize flush ⟨c1,d0⟩=fl at *
  simp only [ok1,ok2,bf,h8,zE,zF,hwb,Aa,hm,okm,PL rfl,Bool.true_and]
  cases c2==0<;>cases e.Kind==6<;>rfl
 | false =>
  have cf:=K5 rfl
  subst cf
  generalize dv ⟨c1,d0⟩ e.At=wb at *
  generalize flush ⟨c1,d0⟩=fl at *
  simp only [ok1,ok2,bf,h8,zE,zF,hwb,Aa,hm,okm,Bool.false_and]
  cases h6:e.Kind==6 with
  | true=>rw [abY h6]; simp only [zE,zF]
  | false =>
   simp only [zF]
   cases e.Kind==7 with
   | true=>simp only [zE]
   | false=>simp only [zF]
theorem NW {n:Nat} (hn:bq<=n) (e:Event) (h8:(e.Kind==8)=false) (w:World) (h:pK w.Fs) (hl:w.Model.length<=1048576) (hp:∀ x∈w.Model,x.Path.size<=1000) (hc:w.jk.length<=1000000) (he:e.Path.size<=cO) (ht:e.To.size<=cO) (k:World->Option R) :
  tM n e w k=k (zh e w):=Mt hn e h8 w.Fs.Mem w.Fs.Device w.Model w.jk w.Kept h hl hp hc he ht k
structure AA (t:Nat) (w:World):Prop where
 fs:pK w.Fs
 ml:w.Model.length<=t
 mp:∀ x∈w.Model,SP 4 x.Path
 cl:w.jk.length<=t
theorem lb.kind {l:List Node} {e:Event} (h:lb l e):(e.Kind==8)=false:=by
 cases h with
 | make k p hk _=>rcases hk with rfl | rfl<;>rfl
 | write=>rfl
 | remove=>rfl
 | move=>rfl
 | back=>rfl
 | flush=>rfl
theorem vz.sp {l:List Node} (hl:∀ x∈l,SP 4 x.Path) {p:ByteArray} (h:vz l p):SP 5 p:=by
 obtain ⟨d,hd,x,hx,rfl⟩:=h
 have zo:SP 4 d:=by
  simp only [lj,zI,List.mem_map,List.mem_filter] at hd
  rcases hd with rfl | ⟨z,hz,rfl⟩
  ·exact ⟨[],rfl,by simp,fun y hy=>(List.not_mem_nil hy).elim⟩
  ·exact hl z hz.1
 exact zo.snoc hx
theorem vz.size {l:List Node} (hl:∀ x∈l,x.Path.size<=1000) {p:ByteArray} (h:vz l p):p.size<=1003:=by
 obtain ⟨d,hd,x,hx,rfl⟩:=h
 have zo:d.size<=1000:=by
  simp only [lj,zI,List.mem_map,List.mem_filter] at hd
  rcases hd with rfl | ⟨z,hz,rfl⟩
  ·decide
  ·exact hl z hz.1
 have h1:=sH hx
 have h3:(S [47]).size=1:=rfl
 rw [ByteArray.size_append,ByteArray.size_append,h3]; omega
theorem Ls {l:List Node} {p:ByteArray} (h:p∈fx l):∃ x∈l,x.Path=p:=by
 simp only [fx,List.mem_map,List.mem_filter] at h
 obtain ⟨x,hx,rfl⟩:=h
 exact ⟨x,hx.1,rfl⟩
theorem lb.size {l:List Node} (hl:∀ x∈l,x.Path.size<=1000) {e:Event} (h:lb l e):e.Path.size<=1003/\e.To.size<=1003:=by
 have hf:∀ {p},(p∈fx l\/p=S [47,97])->p.size<=1003:=fun h=>by
  rcases h with h | rfl
  ·obtain ⟨x,hx,rfl⟩:=Ls h
   have:=hl x hx; omega
  ·decide
 have e0:eS.size<=1003:=by decide
 cases h with
 | make k p hk hp=>exact ⟨hp.size hl,e0⟩
 | write p a t hp=>exact ⟨hf hp,e0⟩
 | remove p hp =>
  refine ⟨?_,e0⟩
  rcases hp with hp | rfl
  ·obtain ⟨x,hx,rfl⟩:=List.mem_map.1 hp
   have:=hl x hx; show x.Path.size<=1003; omega
  ·show (S [47,98]).size<=1003; decide
 | move p q hp hq=>exact ⟨hf hp,hq.size hl⟩
 | back=>exact ⟨e0,e0⟩
 | flush=>exact ⟨e0,e0⟩
theorem Pm (m:Mem) (p t:ByteArray) (a:Int) (x:ByteArray):cB m ⟨1,p,t,a,x⟩=((eT m p 1).1,(eT m p 1).2,true):=rfl
theorem Pg (m:Mem) (p t:ByteArray) (a:Int) (x:ByteArray):cB m ⟨2,p,t,a,x⟩=((eT m p 2).1,(eT m p 2).2,true):=rfl
theorem NX (m:Mem) (p t:ByteArray) (a:Int) (x:ByteArray):cB m ⟨5,p,t,a,x⟩=((jl m p t).1,(jl m p t).2,true):=rfl
theorem Ps (l:List Node) {k:Int} (hk:k=1\/k=2) (p t:ByteArray) (a:Int) (x:ByteArray):dj l ⟨k,p,t,a,x⟩=uK (l++[⟨p,k==2,eS,eS⟩]):=by
 have:((k==1)||(k==2))=true:=by simpa using hk
 simp only [dj,this,zE]
theorem Rl (l:List Node) (p t:ByteArray) (a:Int) (x:ByteArray):dj l ⟨3,p,t,a,x⟩=l.map (vx ⟨3,p,t,a,x⟩):=by
 simp only [dj,show ((3:Int)==1)=false from rfl,show ((3:Int)==2)=false from rfl,show ((3:Int)==3)=true from rfl,Bool.or_false,zE,zF]
theorem R7 (l:List Node) (p t:ByteArray) (a:Int) (x:ByteArray):dj l ⟨4,p,t,a,x⟩=l.filter (fun x=> !below x.Path p):=by
 simp only [dj,show ((4:Int)==1)=false from rfl,show ((4:Int)==2)=false from rfl,show ((4:Int)==3)=false from rfl,show ((4:Int)==4)=true from rfl,Bool.or_false,zE,zF]
theorem Rn (l:List Node) (p t:ByteArray) (a:Int) (x:ByteArray):dj l ⟨5,p,t,a,x⟩=uK (l.map (A3 ⟨5,p,t,a,x⟩)):=by
 simp only [dj,show ((5:Int)==1)=false from rfl,show ((5:Int)==2)=false from rfl,show ((5:Int)==3)=false from rfl,show ((5:Int)==4)=false from rfl,show ((5:Int)==5)=true from rfl,Bool.or_false,zE,zF]
theorem KK (l:List Node) (k:Int) (hk:k=6\/k=7) (p t:ByteArray) (a:Int) (x:ByteArray):dj l ⟨k,p,t,a,x⟩=l:=by
 rcases hk with rfl | rfl<;>simp only [dj,show ((6:Int)==1)=false from rfl,show ((6:Int)==2)=false from rfl,show ((6:Int)==3)=false from rfl,show ((6:Int)==4)=false from rfl,show ((6:Int)==5)=false from rfl,show ((7:Int)==1)=false from rfl,show ((7:Int)==2)=false from rfl,show ((7:Int)==3)=false from rfl,show ((7:Int)==4)=false from rfl,show ((7:Int)==5)=false from rfl,Bool.or_false,zE,zF]
theorem JN {p:ByteArray} {k:Int} (h:(eT m p k).2=0):(aN p).2=true:=by
 have h2:(ao p).2.2=true:=by
  cases hs:(ao p).2.2 with
  | true=>rfl
  | false =>
   simp only [eT,hs,zN,Bool.or_true,Bool.true_or,zE] at h
   exact absurd h (by decide)
 obtain ⟨l,x,e,_⟩:=gV h2
 rw [e]
theorem Sp {p q:ByteArray} (h:(jl m p q).2=0):(aN q).2=true:=by
 have h2:(ao q).2.2=true:=by
  cases hs:(ao q).2.2 with
  | true=>rfl
  | false =>
   simp only [jl,hs,zN,Bool.or_true,zE] at h
   exact absurd h (by decide)
 obtain ⟨l,x,e,_⟩:=gV h2
 rw [e]
theorem pK.flush {f:Fs} (h:pK f):pK (Soft.flush f):=by unfold Soft.flush; exact pK.qv 400 h
theorem AA.step {t:Nat} {w:World} (h:AA t w) {e:Event} (he:lb w.Model e):AA (t+1) (zh e w):=by
 have hI:pK ⟨(cB w.Fs.Mem e).1,w.Fs.Device⟩:=⟨h.fs.m.call e,h.fs.d⟩
 have Nj:(zh e w).jk.length<=t+1:=by
  simp only [zh]
  rw [zK,zL]; have:=h.cl; omega
 have QD:pK (zh e w).Fs:=by
  simp only [zh]
  cases e.Kind==6 with
  | true=>rw [zE]; exact hI.back e.At
  | false =>
   rw [zF]
   cases e.Kind==7 with
   | true=>rw [zE]; exact hI.flush
   | false=>rw [zF]; exact hI
 have Nf:=h.ml
 have hM:(zh e w).Model.length<=t+1/\∀ x∈(zh e w).Model,SP 4 x.Path:=by
  simp only [zh]
  cases hc:(cB w.Fs.Mem e).2.2&&((cB w.Fs.Mem e).2.1==0) with
  | false=>exact ⟨by simp only [zF]; omega,h.mp⟩
  | true =>
   simp only [zB,beq_iff_eq] at hc
   simp only [zE]
   have hc:=hc.2
   cases he with
   | make k p hk hp =>
    have hm:=Ps w.Model hk p eS 0 eS
    have hs:(aN p).2=true:=by
     rcases hk with rfl | rfl
     ·rw [Pm] at hc; exact JN hc
     ·rw [Pg] at hc; exact JN hc
    rw [hm]
    refine ⟨by rw [Dp,zK,zL]; omega,fun x hx=> ?_⟩
    rw [DM,zH,zS] at hx
    rcases hx with hx | rfl
    ·exact h.mp x hx
    ·exact (hp.sp h.mp).cut hs
   | write p a t hp ha ht =>
    have hm:=Rl w.Model p eS a t
    rw [hm]
    refine ⟨by rw [List.length_map]; omega,fun x hx=> ?_⟩
    obtain ⟨y,hy,rfl⟩:=List.mem_map.1 hx
    have:(vx ⟨3,p,eS,a,t⟩ y).Path=y.Path:=by
     simp only [vx]
     cases (!(y.Path==p))||y.bZ with
     | true=>rfl
     | false=>cases a==0<;>rfl
    rw [this]; exact h.mp y hy
   | remove p hp =>
    have hm:=R7 w.Model p eS 0 eS
    rw [hm]
    exact ⟨Nat.le_trans (List.length_filter_le _ _) (by omega),fun x hx=>h.mp x (List.mem_filter.1 hx).1⟩
   | move p q hp hq =>
    have hm:=Rn w.Model p q 0 eS
    rw [hm]
    refine ⟨by rw [Dp,List.length_map]; omega,fun x hx=> ?_⟩
    rw [DM] at hx
    obtain ⟨y,hy,rfl⟩:=List.mem_map.1 hx
    simp only [A3]
    cases (y.Path==p)&&(!y.bZ) with
    | true=>rw [NX] at hc; exact (hq.sp h.mp).cut (Sp hc)
    | false=>exact h.mp y hy
   | back u=>rw [KK _ _ (.inl rfl)]; exact ⟨by omega,h.mp⟩
   | flush=>rw [KK _ _ (.inr rfl)]; exact ⟨by omega,h.mp⟩
 exact ⟨QD,hM.1,hM.2,Nj⟩
inductive WR:World->Prop
 | new:WR ⟨F2,[],[],[]⟩
 | step {w:World} {e:Event}:WR w->lb w.Model e->WR (zh e w)
theorem AA.new:AA 0 ⟨F2,[],[],[]⟩:=⟨pK.new,by simp,fun x hx=>(List.not_mem_nil hx).elim,by simp⟩
theorem SP.le {p:ByteArray} (h:SP 4 p):p.size<=1000:=by have:=h.size; omega
theorem Lz {n:Nat} (hn:bq<=n) {t:Nat} (ht:t<=1000000) (w:World) (h:AA t w) (c:et) (hc:ur c):∃ e c',Cn c c'/\lb w.Model e/\(∀ k:Event->et->Option R,ej n w c k=k e c')/\∀ k:World->Option R,tM n e w k=k (zh e w):=by
 have Nf:=h.ml
 have Nj:=h.cl
 have hp:∀ x∈w.Model,x.Path.size<=1000:=fun x hx=>(h.mp x hx).le
 obtain ⟨e,c',h1,h2,h3⟩:=Mz (R:=R) hn w (by omega) hp h.fs.m.g.R.dy c hc
 obtain ⟨s1,s2⟩:=h2.size hp
 exact ⟨e,c',h1,h2,h3,fun k=>NW hn e h2.kind w h.fs (by omega) hp (by omega) (Nat.le_trans s1 (by decide)) (Nat.le_trans s2 (by decide)) k⟩
theorem KG {n:Nat} (hn:bq<=n) (b:List UInt8):∀ (r i:Nat) (w:World) (c:et),i+r=28->AA i w->WR w->ur c->c.b=b->∃ w' c',Cn c c'/\AA 28 w'/\WR w'/\∀ (m:Nat) (q:World->et->Option R),r<m ->
   l6 n b (fun i xh v eF dx fX jb lF ix uV Cx qZ dJ=>q ⟨⟨⟨⟨⟨eF,dx⟩,fX,jb⟩,lF,ix,v⟩,⟨uV⟩⟩,Cx,qZ,dJ⟩ ⟨b,i,xh⟩) m (i:Int) c.i c.h w.Fs.Mem.Next w.Fs.Mem.aa.au.ab w.Fs.Mem.aa.au.bB w.Fs.Mem.aa.ad w.Fs.Mem.aa.ab w.Fs.Mem.an w.Fs.Mem.ae w.Fs.Device.cp w.Model w.jk w.Kept=q w' c'
 | r,i,w,c,h1,h2,h3,h4,h5=>by
  obtain ⟨x,c1,x1,x2,cf,e1⟩:=bz (R:=R) 24 (by decide) (by decide) c h4
  have hcb:(⟨b,c.i,c.h⟩:et)=c:=by rw [← h5]
  have XH:(⟨b,c1.i,c1.h⟩:et)=c1:=by rw [← h5]; exact cf.mk'
  by_cases fP:(i:Int)<4+x
  ·match r,h1 with
   | 0,h1=>omega
   | r+1,h1 =>
    obtain ⟨e,c2,fJ,he,e2,e3⟩:=Lz (R:=R) hn (t:=i) (by omega) w h2 c1 cf.1
    obtain ⟨w',c',q1,q2,q3,q4⟩:=KG hn b r (i+1) (zh e w) c2 (by omega) (h2.step he) (h3.step he) fJ.1 (fJ.2.trans (cf.2.trans h5))
    refine ⟨w',c',(cf.tr fJ).tr q1,q2,q3,fun m q hm=> ?_⟩
    match m,hm with
    | m+1,hm =>
     simp only [l6]
     rw [hcb,e1,XH,cq (n:=4+x) (by omega) (by omega),decide_eq_true fP,bK]
     refine (e2 _).trans ?_
     refine (e3 _).trans ?_
     rw [bM (by omega)]
     exact q4 m q (by omega)
  ·refine ⟨w,c1,cf,⟨h2.fs,Nat.le_trans h2.ml (by omega),h2.mp,Nat.le_trans h2.cl (by omega)⟩,h3,fun m q hm=> ?_⟩
   match m,hm with
   | m+1,hm =>
    simp only [l6]
    rw [hcb,e1,cq (n:=4+x) (by omega) (by omega),decide_eq_false fP,br]
    show q w ⟨b,c1.i,c1.h⟩=_
    rw [XH]
termination_by r=>r
theorem Kl {n:Nat} (hn:bq<=n) (c:et) (hc:ur c):∃ w c',Cn c c'/\AA 28 w/\WR w/\∀ k:Fs->et->Option R,wT n c k=k w.Fs c':=by
 obtain ⟨w',c',q1,q2,q3,q4⟩:=KG (R:=R) hn c.b 28 0 ⟨F2,[],[],[]⟩ c rfl AA.new WR.new hc rfl
 refine ⟨w',c',q1,q2,q3,fun k=> ?_⟩
 simp only [wT]
 rw [Ol hn]
 exact q4 n (fun w c=>k w.Fs c) (aO hn (by omega))
theorem im {σ:Type} {L:(Int->Int->σ->Option R)->Nat->Int->Int->Int->σ->Option R} {b:List UInt8} {len B:Nat} {I:Nat->σ->Prop} (hl:len<=4611686018427387904)
  (hs:∀ i (c:et) s,i<len->ur c->c.b=b->I i s->∃ c' s',Cn c c'/\I (i+1) s'/\∀ q m,B<m->L q (m+1) (i:Int) c.i c.h s=L q m (aC ((i:Int)+1)) c'.i c'.h s')
  (hq:∀ q m (c:et) s,I len s->L q (m+1) (len:Int) c.i c.h s=q c.i c.h s) :
  ∀ (k i:Nat) (c:et) (s:σ),i+k=len->ur c->c.b=b->I i s->∃ c' s',Cn c c'/\I len s'/\∀ q m,k+B<m->L q m (i:Int) c.i c.h s=q c'.i c'.h s'
 | 0,i,c,s,h1,hc,hb,h3=>by
  have:i=len:=by omega
  subst this
  refine ⟨c,s,⟨hc,rfl⟩,h3,fun q m hm=> ?_⟩
  match m,hm with
  | m+1,_=>exact hq q m c s h3
 | k+1,i,c,s,h1,hc,hb,h3=>by
  obtain ⟨c1,s1,cf,zr,e1⟩:=hs i c s (by omega) hc hb h3
  obtain ⟨c2,s2,fJ,Vo,e2⟩:=im hl hs hq k (i+1) c1 s1 (by omega) cf.1 (cf.2.trans hb) zr
  refine ⟨c2,s2,cf.tr fJ,Vo,fun q m hm=> ?_⟩
  match m,hm with
  | m+1,hm=>rw [e1 q m (by omega),bM (by omega)]; exact e2 q m (by omega)
theorem Cn.YX {c c':et} {b:List UInt8} (h:Cn c c') (hb:c.b=b):(⟨b,c'.i,c'.h⟩:et)=c':=by rw [← hb]; exact h.mk'
theorem pH {c:et} {b:List UInt8} (hb:c.b=b):(⟨b,c.i,c.h⟩:et)=c:=by rw [← hb]
theorem kT {x a b:Int} (h1:a<=x) (h2:x<=b):within x a b=true:=ak.2 ⟨h1,h2⟩
theorem AH (c:et) (hc:ur c):∃ x c',bj x=true/\Cn c c'/\∀ k:aR->et->Option R,mf c k=k x c':=by
 obtain ⟨r,c1,hr,cf,e1⟩:=fq (R:=R) [0,1,2] (by decide) (by decide) c hc
 have cy:r=0\/r=1\/r=2:=by simpa using hr
 by_cases h0:r=0
 ·subst h0
  refine ⟨aY 0,c1,rfl,cf,fun k=> ?_⟩
  simp only [mf]
  rw [e1,jf,show (!((aY 0).Kind==0))=false from rfl,br,cf.mk']
 ·obtain ⟨a,c2,a1,a2,fJ,e2⟩:=bz (R:=R) 4 (by decide) (by decide) c1 cf.1
  obtain ⟨p,c3,p1,p2,ja,e3⟩:=bz (R:=R) 17 (by decide) (by decide) c2 fJ.1
  obtain ⟨q,c4,q1,q2,vJ,e4⟩:=bz (R:=R) 17 (by decide) (by decide) c3 ja.1
  obtain ⟨z,c5,hz,zt,e5⟩:=fq (R:=R) [0,0,q] (by simp) (by show 3<=cO; decide) c4 vJ.1
  have FG:0<=z/\z<=16:=by
   simp only [zI,List.not_mem_nil,or_false] at hz; omega
  have b2:=cf.tr fJ
  have b3:=b2.tr ja
  have b4:=b3.tr vJ
  have b5:=b4.tr zt
  have hN:aY r=⟨r,1,[0,0]⟩:=by rcases cy with h | h | h<;>subst h<;>first | exact absurd rfl h0 | rfl
  refine ⟨⟨r,a,[p,z]⟩,c5,?_,b5,fun k=> ?_⟩
  ·have e1':(r==0)=false:=beq_eq_false_iff_ne.2 h0
   have e2':(r != 0)=true:=by simp only [bne,e1',zN]
   simp only [bj,kT (show 0<=r by omega) (show r<=2 by omega),kT (show 0<=a by omega) (show a<=200 by omega),kT p1 (show p<=16 by omega),kT FG.1 FG.2,e2',List.all_cons,List.all_nil,zR,List.length_nil]
   rfl
  ·simp only [mf]
   rw [e1,jf,hN]
   rw [show (!((⟨r,1,[0,0]⟩:aR).Kind==0))=true by simpa using h0,bK,cf.mk',e2,b2.mk',e3,aj (by rfl),b3.mk',e4,b4.mk']
   refine (e5 _).trans ?_
   rw [aj (by rfl),b5.mk']; rfl
theorem Lt {x:Int} (h1:0<=x) (h2:x<=255):j5 x=true:=by simp only [j5,zB,zD]; omega
theorem Ll {n:Nat} (hn:bq<=n) (z:Nat) (hz:z<=5000) (c:et) (hc:ur c):∃ (s:ByteArray) (c':et),s.size=z/\Cn c c'/\∀ k:ByteArray->et->Option R,pQ n (z:Int) c k=k s c':=by
 obtain ⟨c',s,lH,hI,e⟩:=im (R:=R) (L:=fun q=>il (z:Int) c.b q) (b:=c.b) (len:=z) (B:=0) (I:=fun i (s:List UInt8)=>s.length=i) (by omega)
  (fun i c0 s hi h1 h2 h3=>by
   obtain ⟨x,c1,x1,x2,cf,e1⟩:=nS (R:=R) c0 h1
   refine ⟨c1,s++[UInt8.ofNat (IntKind.u8.wrap x).toNat],cf,by rw [zK,h3,zL],fun q m _=> ?_⟩
   simp only [il]
   rw [show decide ((i:Int)<(z:Int))=true by rw [zD]; omega,bK,pH h2,e1,nP,Bool.true_and,bf,aj (cm (i:=i) (by omega) (by omega) (by simp))])
  (fun q m c0 s h=>by simp [il]) z 0 c [] (by omega) hc rfl rfl
 refine ⟨yW s,c',hI,lH,fun k=> ?_⟩
 simp only [pQ]
 rw [show decide ((5000:Int)<(z:Int))=false by simp; omega,br]
 refine (e _ n (aO hn (by omega))).trans ?_
 rw [lH.mk']
theorem I1 {n:Nat} (hn:bq<=n) (x:Int) (h1:0<=x) (h2:x<=5000) (c:et) (hc:ur c):∃ (s:ByteArray) (c':et),(s.size:Int)=x/\Cn c c'/\∀ k:ByteArray->et->Option R,pQ n x c k=k s c':=by
 obtain ⟨z,rfl⟩:=Int.eq_ofNat_of_zero_le h1
 obtain ⟨s,c',a,b,e⟩:=Ll (R:=R) hn z (by omega) c hc
 exact ⟨s,c',by omega,b,e⟩
theorem Rq {n:Nat} (hn:bq<=n) (z:Nat) (hz:z<=100000) (x:Int) (h1:0<=x) (h2:x<=255):∃ s:ByteArray,s.size=z/\∀ k:ByteArray->Option R,ud n (z:Int) x k=k s:=by
 have key:∀ (r i:Nat) (a:List UInt8),i+r=z->a.length=z->∃ a':List UInt8,a'.length=z/\∀ (q:List UInt8->Option R) (m:Nat),r<m->jS (z:Int) x q m (i:Int) a=q a':=by
  intro r
  induction r with
  | zero =>
   intro i a h1 h2
   refine ⟨a,h2,fun q m hm=> ?_⟩
   match m,hm with
   | m+1,_ =>
    simp only [jS]
    rw [show decide ((i:Int)<(z:Int))=false by simp; omega,br]
  | succ r ih =>
   intro i a HS Jy
   obtain ⟨a',FI,e⟩:=ih (i+1) (a.set i (UInt8.ofNat x.toNat)) (by omega) (List.length_set.trans Jy)
   refine ⟨a',FI,fun q m hm=> ?_⟩
   match m,hm with
   | m+1,hm =>
    simp only [jS,aG,Jy]
    rw [show decide ((i:Int)<(z:Int))=true by rw [zD]; omega,bK,show decide (i<z)=true by rw [zD]; omega,bf,aj (Lt h1 h2),bM (by omega),zC]
    exact e q m (by omega)
 obtain ⟨a',FI,e⟩:=key z 0 (List.replicate (z:Int).toNat 0) (by omega) (by simp)
 refine ⟨yW a',FI,fun k=> ?_⟩
 simp only [ud]
 rw [aj (by
  simp only [Xx,beq_self_eq_true,Bool.true_and,zB,zD]
  have hb:(z:Int).toNat<=1099511627776:=by omega
  exact ⟨by omega,Nat.ble_eq_true_of_le hb⟩)]
 exact e _ n (aO hn (by omega))
def JX (l:List Slot):Prop:=bw ⟨true,l,eS⟩=true
theorem Pp {n:Nat} (hn:bq<=n) (b:List UInt8) (c:et) (hc:ur c) (hb:c.b=b):∃ c' l,Cn c c'/\JX l/\∀ q:Int->Int->List Slot->Option R,dR n true eS b q n 0 c.i c.h (List.replicate 4 aq)=q c'.i c'.h l:=by
 obtain ⟨c',s,lH,hI,e⟩:=im (R:=R) (L:=fun q=>dR n true eS b q) (b:=b) (len:=4) (B:=0) (I:=fun i (s:List Slot)=>JX s/\∀ t,i<=t->s.getD t aq=aq) (by omega)
  (fun i c0 s hi h1 h2 h3=>by
   obtain ⟨x,c1,hx,cf,e1⟩:=Dn (R:=R) c0 h1
   obtain ⟨a,c2,a1,a2,fJ,e2⟩:=bz (R:=R) 8 (by decide) (by decide) c1 cf.1
   obtain ⟨o,c3,ja,e3⟩:=fK (R:=R) 2 (by decide) (by decide) c2 fJ.1
   have xi:=(pA (b:=⟨true,s,eS⟩) rfl).1 h3.1
   have VE:s.length=4:=xi.1
   have m0:(⟨b,c0.i,c0.h⟩:et)=c0:=pH h2
   have m1:(⟨b,c1.i,c1.h⟩:et)=c1:=cf.YX h2
   have m2:(⟨b,c2.i,c2.h⟩:et)=c2:=(cf.tr fJ).YX h2
   have qe:∀ k:Int->Option R,p8 n ⟨true,s,eS⟩ x k=_:=fun k=>DA hn ⟨true,s,eS⟩ (by show s.length<=cO; rw [VE]; decide) x k
   have eB:∀ t,i+1<=t->s.getD t aq=aq:=fun t ht=>h3.2 t (by omega)
   rcases sn (b:=⟨true,s,eS⟩) (nm:=x) (fL (yf hx)) with ⟨hs,Cj⟩ | ⟨j,hs,_⟩
   ·cases o with
    | true =>
     refine ⟨c3,s.set i ⟨x,1+a⟩,(cf.tr fJ).tr ja,⟨?_,fun t ht=> ?_⟩,fun q m _=> ?_⟩
     ·exact m5 (b:=⟨true,s,eS⟩) h3.1 rfl (by omega) (.inr ⟨yf hx,⟨by show 1<=1+a; omega,by show 1+a<=8; omega⟩⟩) fun _ t _=>Cj t
     ·rw [cF,if_neg (by omega)]; exact eB t ht
     ·simp only [dR]
      rw [show decide ((i:Int)<4)=true by rw [zD]; omega,bK,m0,e1,m1,e2,qe,hs,m2,e3]
      rw [show decide ((-1:Int)<0)=true from rfl]
      simp only [zE,Bool.and_self,aG,VE]
      rw [show decide (i<4)=true by rw [zD]; omega,bf,cq (n:=1+a) (by omega) (by omega),zC]
    | false =>
     refine ⟨c3,s,(cf.tr fJ).tr ja,⟨h3.1,eB⟩,fun q m _=> ?_⟩
     simp only [dR]
     rw [show decide ((i:Int)<4)=true by rw [zD]; omega,bK,m0,e1,m1,e2,qe,hs,m2,e3]
     rw [show decide ((-1:Int)<0)=true from rfl]
     simp only [zE,zF,Bool.and_false]
   ·refine ⟨c2,s,cf.tr fJ,⟨h3.1,eB⟩,fun q m _=> ?_⟩
    simp only [dR]
    rw [show decide ((i:Int)<4)=true by rw [zD]; omega,bK,m0,e1,m1,e2,qe,hs,m2,e3]
    rw [show decide (((j:Nat):Int)<0)=false by simp]
    simp only [zF,Bool.false_and])
  (fun q m c0 s h=>by simp [dR]) 4 0 c (List.replicate 4 aq) (by omega) hc hb ⟨by show bw _=true; decide,fun t _=>by
   match t with
   | 0=>rfl
   | 1=>rfl
   | 2=>rfl
   | 3=>rfl
   | t+4=>rfl⟩
 exact ⟨c',s,lH,hI.1,fun q=>e q n (aO hn (by omega))⟩
theorem AU {n:Nat} (hn:bq<=n) (c:et) (hc:ur c):∃ x c',bw x=true/\Cn c c'/\∀ k:Block->et->Option R,lZ n c k=k x c':=by
 obtain ⟨o,c1,cf,e1⟩:=fK (R:=R) 2 (by decide) (by decide) c hc
 cases o with
 | true =>
  obtain ⟨z,c2,z1,z2,fJ,e2⟩:=bz (R:=R) 17 (by decide) (by decide) c1 cf.1
  obtain ⟨s,c3,hs,ja,e3⟩:=I1 (R:=R) hn z z1 (by omega) c2 fJ.1
  have b2:=cf.tr fJ
  have b3:=b2.tr ja
  refine ⟨⟨false,[],s⟩,c3,?_,b3,fun k=> ?_⟩
  ·simp only [bw,zF]
   have:s.size<=16:=by omega
   simp [this]
  ·simp only [lZ]
   rw [e1,bK,cf.mk',e2,b2.mk',e3,b3.mk']
 | false =>
  obtain ⟨c2,l,fJ,hl,e2⟩:=Pp (R:=R) hn c.b c1 cf.1 cf.2
  have b2:=cf.tr fJ
  refine ⟨⟨true,l,eS⟩,c2,hl,b2,fun k=> ?_⟩
  simp only [lZ]
  rw [e1,br,yj]
  refine (e2 _).trans ?_
  rw [b2.mk']
theorem RE {n:Nat} (hn:bq<=n) (b:List UInt8) (c:et) (hc:ur c) (hb:c.b=b) (l:List aR) (hl:l.length=8) (hi:∀ x∈l,bj x=true):∃ c' l',Cn c c'/\(l'.length=8/\∀ x∈l',bj x=true)/\∀ q:Int->Int->List aR->Option R,fo b q n 0 c.i c.h l=q c'.i c'.h l':=by
 obtain ⟨c',s,lH,hI,e⟩:=im (R:=R) (L:=fun q=>fo b q) (b:=b) (len:=8) (B:=0) (I:=fun i (s:List aR)=>s.length=8/\∀ x∈s,bj x=true) (by omega)
  (fun i c0 s hi h1 h2 h3=>by
   obtain ⟨o,c1,cf,e1⟩:=fK (R:=R) 2 (by decide) (by decide) c0 h1
   cases o with
   | true =>
    obtain ⟨x,c2,hx,fJ,e2⟩:=AH (R:=R) c1 cf.1
    refine ⟨c2,s.set i x,cf.tr fJ,⟨List.length_set.trans h3.1,fun y hy=> ?_⟩,fun q m _=> ?_⟩
    ·rcases mem_set hy with z | z
     ·exact h3.2 y z
     ·rw [z]; exact hx
    ·simp only [fo]
     rw [show decide ((i:Int)<8)=true by rw [zD]; omega,bK,pH h2,e1,bK,cf.YX h2,e2,aG,h3.1,show decide (i<8)=true by rw [zD]; omega,bf,zC]
   | false =>
    refine ⟨c1,s,cf,h3,fun q m _=> ?_⟩
    simp only [fo]
    rw [show decide ((i:Int)<8)=true by rw [zD]; omega,bK,pH h2,e1,br])
  (fun q m c0 s h=>by simp [fo]) 8 0 c l (by omega) hc hb ⟨hl,hi⟩
 exact ⟨c',s,lH,hI,fun q=>e q n (aO hn (by omega))⟩
theorem Rz {n:Nat} (hn:bq<=n) (b:List UInt8) (c:et) (hc:ur c) (hb:c.b=b) (l:List Block) (hl:l.length=16) (hi:∀ x∈l,bw x=true):∃ c' l',Cn c c'/\(l'.length=16/\∀ x∈l',bw x=true)/\∀ q:Int->Int->List Block->Option R,fi n b q n 0 c.i c.h l=q c'.i c'.h l':=by
 obtain ⟨c',s,lH,hI,e⟩:=im (R:=R) (L:=fun q=>fi n b q) (b:=b) (len:=16) (B:=0) (I:=fun i (s:List Block)=>s.length=16/\∀ x∈s,bw x=true) (by omega)
  (fun i c0 s hi h1 h2 h3=>by
   obtain ⟨o,c1,cf,e1⟩:=fK (R:=R) 2 (by decide) (by decide) c0 h1
   cases o with
   | true =>
    obtain ⟨x,c2,hx,fJ,e2⟩:=AU (R:=R) hn c1 cf.1
    refine ⟨c2,s.set i x,cf.tr fJ,⟨List.length_set.trans h3.1,fun y hy=> ?_⟩,fun q m _=> ?_⟩
    ·rcases mem_set hy with z | z
     ·exact h3.2 y z
     ·rw [z]; exact hx
    ·simp only [fi]
     rw [show decide ((i:Int)<16)=true by rw [zD]; omega,bK,pH h2,e1,bK,cf.YX h2,e2,aG,h3.1,show decide (i<16)=true by rw [zD]; omega,bf,zC]
   | false =>
    refine ⟨c1,s,cf,h3,fun q m _=> ?_⟩
    simp only [fi]
    rw [show decide ((i:Int)<16)=true by rw [zD]; omega,bK,pH h2,e1,br])
  (fun q m c0 s h=>by simp [fi]) 16 0 c l (by omega) hc hb ⟨hl,hi⟩
 exact ⟨c',s,lH,hI,fun q=>e q n (aO hn (by omega))⟩
theorem OU {n:Nat} (hn:bq<=n) (b:List UInt8) (c:et) (hc:ur c) (hb:c.b=b) (l:List Bool) (hl:l.length=16):∃ c' l',Cn c c'/\l'.length=16/\∀ q:Int->Int->List Bool->Option R,gJ b q n 0 c.i c.h l=q c'.i c'.h l':=by
 obtain ⟨c',s,lH,hI,e⟩:=im (R:=R) (L:=fun q=>gJ b q) (b:=b) (len:=16) (B:=0) (I:=fun i (s:List Bool)=>s.length=16) (by omega)
  (fun i c0 s hi h1 h2 h3=>by
   obtain ⟨o,c1,cf,e1⟩:=fK (R:=R) 2 (by decide) (by decide) c0 h1
   refine ⟨c1,s.set i o,cf,List.length_set.trans h3,fun q m _=> ?_⟩
   simp only [gJ]
   rw [show decide ((i:Int)<16)=true by rw [zD]; omega,bK,pH h2,e1,aG,h3,show decide (i<16)=true by rw [zD]; omega,bf,zC])
  (fun q m c0 s h=>by simp [gJ]) 16 0 c l (by omega) hc hb hl
 exact ⟨c',s,lH,hI,fun q=>e q n (aO hn (by omega))⟩
def MC:List ByteArray:=[S [112],S [113],S [114],S [115]]
theorem NJ {n:Nat} (hn:bq<=n) (b:List UInt8) (c:et) (hc:ur c) (hb:c.b=b) (di:List aR) (p:Int) (p1:1<=p) (p2:p<=16) (Qe:di.length=8) (h0:(di.getD 0 ay).ax.length=2) (hp:(di.getD 0 ay).ax.getD 0 0=p) (l:List Block) (hl:l.length=16) (hi:∀ x∈l,bw x=true)
  (Tl:l.getD (p-1).toNat aA=⟨true,List.replicate 4 aq,eS⟩):∃ c' l',Cn c c'/\(l'.length=16/\∀ x∈l',bw x=true)/\∀ q:Int->Int->List Block->Option R,gI b di q n 0 c.i c.h l=q c'.i c'.h l':=by
 obtain ⟨c',s,lH,hI,e⟩:=im (R:=R) (L:=fun q=>gI b di q) (b:=b) (len:=4) (B:=0) (I:=fun i (s:List Block)=>s.length=16/\(∀ x∈s,bw x=true)/\(s.getD (p-1).toNat aA).bZ=true/\(∀ t,i<=t->(s.getD (p-1).toNat aA).ah.getD t aq=aq)/\∀ t,t<i->((s.getD (p-1).toNat aA).ah.getD t aq).Name=MC.getD t eS) (by omega)
  (fun i c0 s hi h1 h2 h3=>by
   obtain ⟨a,c1,a1,a2,cf,e1⟩:=bz (R:=R) 8 (by decide) (by decide) c0 h1
   obtain ⟨s1,s2,s3,s4,s5⟩:=h3
   have fP:(p-1).toNat<s.length:=by omega
   have QL:=s2 _ (aV aA fP)
   have VE:=mw QL s3
   have hpq:bH (MC.getD i eS)=true:=by
    match i,hi with
    | 0,_=>decide
    | 1,_=>decide
    | 2,_=>decide
    | 3,_=>decide
   have rn:bw (eV (s.getD (p-1).toNat aA) i ⟨MC.getD i eS,1+a⟩)=true:=by
    refine m5 QL s3 (by omega) (.inr ⟨hpq,⟨by show 1<=1+a; omega,by show 1+a<=8; omega⟩⟩) fun _ t ht=> ?_
    by_cases hti:t<i
    ·rw [s5 t hti]
     show MC.getD t eS≠MC.getD i eS
     match i,hi,t,hti with
     | 1,_,0,_=>decide
     | 2,_,0,_=>decide
     | 2,_,1,_=>decide
     | 3,_,0,_=>decide
     | 3,_,1,_=>decide
     | 3,_,2,_=>decide
    ·rw [s4 t (by omega)]; exact fun z=>fL hpq z.symm
   refine ⟨c1,s.set (p-1).toNat (eV (s.getD (p-1).toNat aA) i ⟨MC.getD i eS,1+a⟩),cf,⟨List.length_set.trans s1,fun y hy=> ?_,?_,fun t ht=> ?_,fun t ht=> ?_⟩,fun q m _=> ?_⟩
   ·rcases mem_set hy with z | z
    ·exact s2 y z
    ·rw [z]; exact rn
   ·rw [cF,if_pos ⟨rfl,fP⟩]; exact s3
   ·rw [cF,if_pos ⟨rfl,fP⟩]
    simp only [eV]; rw [cF,if_neg (by omega)]; exact s4 t (by omega)
   ·rw [cF,if_pos ⟨rfl,fP⟩]
    simp only [eV]; rw [cF]
    split
    ·next q=>rw [q.1]
    ·next q=>exact s5 t (by omega)
   ·simp only [gI,hp]
    rw [show decide ((i:Int)<4)=true by rw [zD]; omega,bK,aj (by rw [Qe]; rfl),aj (by rw [h0]; rfl),bJ (by omega) (by omega),aj (bu p1 (by omega)),
     show aZ (i:Int) ([S [112],S [113],S [114],S [115]]:List ByteArray).length=true by rw [aG,zD]; exact hi,bf,pH h2,e1,aG,VE,show decide (i<4)=true by rw [zD]; omega,bf,cq (n:=1+a) (by omega) (by omega),zC]
    rfl)
  (fun q m c0 s h=>by simp [gI]) 4 0 c l (by omega) hc hb ⟨hl,hi,by rw [Tl],fun t _=>by
   rw [Tl]
   match t with
   | 0=>rfl
   | 1=>rfl
   | 2=>rfl
   | 3=>rfl
   | t+4=>rfl,fun t ht=>absurd ht (Nat.not_lt_zero t)⟩
 exact ⟨c',s,lH,⟨hI.1,hI.2.1⟩,fun q=>e q n (aO hn (by omega))⟩
theorem Mb {n:Nat} (hn:bq<=n) (c:et) (hc:ur c):∃ d c',ko d/\Cn c c'/\∀ k:aa->et->Option R,pV n c k=k d c':=by
 have hD:=kD.1 Bs
 obtain ⟨c1,l1,cf,h1,e1⟩:=RE (R:=R) hn c.b c hc rfl fk.ad hD.di hD.ino
 obtain ⟨c2,l2,fJ,h2,e2⟩:=Rz (R:=R) hn c.b c1 cf.1 cf.2 fk.ab hD.db hD.oO
 have b2:=cf.tr fJ
 obtain ⟨c3,l3,ja,h3,e3⟩:=OU (R:=R) hn c.b c2 fJ.1 b2.2 fk.au.ab hD.bb
 have b3:=b2.tr ja
 obtain ⟨o,c4,vJ,e4⟩:=fK (R:=R) 6 (by decide) (by decide) c3 ja.1
 have b4:=b3.tr vJ
 cases o with
 | true =>
  refine ⟨⟨⟨l3,fk.au.bB⟩,l1,l2⟩,c4,⟨h3,hD.bi,h1.1,h2.1,h1.2,h2.2⟩,b4,fun k=> ?_⟩
  simp only [pV]
  rw [qA hn]
  refine (e1 _).trans ((e2 _).trans ((e3 _).trans ?_))
  rw [b3.mk',e4,b4.mk']; rfl
 | false =>
  obtain ⟨p,c5,p1,p2,zt,e5⟩:=bz (R:=R) 16 (by decide) (by decide) c4 vJ.1
  have b5:=b4.tr zt
  obtain ⟨z,c6,z1,z2,K0,e6⟩:=bz (R:=R) 17 (by decide) (by decide) c5 zt.1
  have b6:=b5.tr K0
  have fP:(1+p-1).toNat<l2.length:=by rw [h2.1]; omega
  have adi:bj ⟨2,1,[1+p,z]⟩=true:=by
   simp only [bj,kT (show (0:Int)<=2 by decide) (show (2:Int)<=2 by decide),kT (show (0:Int)<=1 by decide) (show (1:Int)<=200 by decide),kT (show 0<=1+p by omega) (show 1+p<=16 by omega),kT z1 (show z<=16 by omega),List.all_cons,List.all_nil,zR,List.length_nil]
   rfl
  have hg0:(l1.set 0 ⟨2,1,[1+p,z]⟩).getD 0 ay=⟨2,1,[1+p,z]⟩:=by rw [cF,if_pos ⟨rfl,by omega⟩]
  obtain ⟨c7,l7,Wy,h7,e7⟩:=NJ (R:=R) hn c.b c6 K0.1 b6.2 (l1.set 0 ⟨2,1,[1+p,z]⟩) (1+p) (by omega) (by omega) (List.length_set.trans h1.1) (by rw [hg0]; rfl) (by rw [hg0]; rfl) (l2.set (1+p-1).toNat ⟨true,List.replicate 4 aq,eS⟩) (List.length_set.trans h2.1) (fun y hy=>by
   rcases mem_set hy with q | q
   ·exact h2.2 y q
   ·rw [q]; decide) (by rw [cF,if_pos ⟨rfl,fP⟩])
  have b7:=b6.tr Wy
  refine ⟨⟨⟨l3,fk.au.bB⟩,l1.set 0 ⟨2,1,[1+p,z]⟩,l7⟩,c7,⟨h3,hD.bi,List.length_set.trans h1.1,h7.1,fun y hy=> ?_,h7.2⟩,b7,fun k=> ?_⟩
  ·rcases mem_set hy with q | q
   ·exact h1.2 y q
   ·rw [q]; exact adi
  ·simp only [pV]
   rw [qA hn]
   refine (e1 _).trans ((e2 _).trans ((e3 _).trans ?_))
   rw [b3.mk',e4,zN,bK,b4.mk',e5,b5.mk',e6,cq (n:=1+p) (by omega) (by omega),aj (by rw [h1.1]; rfl)]
   simp only [hg0]
   rw [aj (by rw [List.length_set,h1.1]; rfl),aj (by rfl),yj,show ([1+p,z]:List Int).getD 0 0=1+p from rfl,bJ (by omega) (by omega),aj (bu (by omega) (by rw [h2.1]; omega))]
   refine (e7 _).trans ?_
   rw [b7.mk']
theorem DX {n:Nat} (hn:bq<=n) (c:et) (hc:ur c):∃ d c',ko d/\Cn c c'/\∀ k:aa->et->Option R,lN n c k=k d c':=by
 obtain ⟨o,c1,cf,e1⟩:=fK (R:=R) 3 (by decide) (by decide) c hc
 cases o with
 | true =>
  obtain ⟨d,c2,hd,fJ,e2⟩:=Mb (R:=R) hn c1 cf.1
  have b2:=cf.tr fJ
  refine ⟨d,c2,hd,b2,fun k=> ?_⟩
  simp only [lN]
  rw [e1,bK,cf.mk',e2,b2.mk']
 | false =>
  obtain ⟨w,c2,fJ,hw,hr,e2⟩:=Kl (R:=R) hn c1 cf.1
  have b2:=cf.tr fJ
  obtain ⟨o2,c3,ja,e3⟩:=fK (R:=R) 2 (by decide) (by decide) c2 fJ.1
  have b3:=b2.tr ja
  cases o2 with
  | true =>
   refine ⟨w.Fs.Mem.aa,c3,hw.fs.m.g.R.d,b3,fun k=> ?_⟩
   simp only [lN]
   rw [e1,br,cf.mk',e2,b2.mk',e3,bK,lR hn _ hw.fs.m.g.R.d.t.sz,b3.mk']
  | false =>
   refine ⟨mI w.Fs.Device,c3,ko.of _,b3,fun k=> ?_⟩
   simp only [lN]
   rw [e1,br,cf.mk',e2,b2.mk',e3,br,Lb hn _ (Ej hw.fs.d),b3.mk']
   simp only [EK,hw.fs.d,zE]
theorem wq {α:Type} (l:List α):sub l 1 (l.length-1)=l.drop 1:=by
 simp only [sub]; rw [List.take_of_length_le (by simp)]
theorem R6 {n:Nat} (hn:bq<=n) (b:List UInt8) (c:et) (hc:ur c) (hb:c.b=b) (l:List Bool) (hl:l.length<=1000):∃ c' l',Cn c c'/\l'.length=l.length/\∀ q:Int->Int->List Bool->Option R,ig b q n 0 c.i c.h l=q c'.i c'.h l':=by
 obtain ⟨c',s,lH,hI,e⟩:=im (R:=R) (L:=fun q=>ig b q) (b:=b) (len:=l.length) (B:=0) (I:=fun i (s:List Bool)=>s.length=l.length) (by omega)
  (fun i c0 s hi h1 h2 h3=>by
   obtain ⟨o,c1,cf,e1⟩:=fK (R:=R) 2 (by decide) (by decide) c0 h1
   refine ⟨c1,s.set i o,cf,List.length_set.trans h3,fun q m _=> ?_⟩
   simp only [ig,h3]
   rw [bk,show decide (i<l.length)=true by rw [zD]; omega,bK,pH h2,e1,aG,show decide (i<l.length)=true by rw [zD]; omega,bf,zC])
  (fun q m c0 s h=>by simp [ig,h]) l.length 0 c l (by omega) hc hb rfl
 exact ⟨c',s,lH,hI,fun q=>e q n (aO hn (by omega))⟩
theorem Q1 {n:Nat} (hn:bq<=n) (b:List UInt8) (c:et) (hc:ur c) (hb:c.b=b) (l:List Bool) (hl:l.length<=1000):∃ c' l',Cn c c'/\l'.length=l.length/\∀ q:Int->Int->List Bool->Option R,iu b q n 0 c.i c.h l=q c'.i c'.h l':=by
 obtain ⟨c',s,lH,hI,e⟩:=im (R:=R) (L:=fun q=>iu b q) (b:=b) (len:=l.length) (B:=0) (I:=fun i (s:List Bool)=>s.length=l.length) (by omega)
  (fun i c0 s hi h1 h2 h3=>by
   obtain ⟨o,c1,cf,e1⟩:=fK (R:=R) 2 (by decide) (by decide) c0 h1
   refine ⟨c1,s.set i o,cf,List.length_set.trans h3,fun q m _=> ?_⟩
   simp only [iu,h3]
   rw [bk,show decide (i<l.length)=true by rw [zD]; omega,bK,pH h2,e1,aG,show decide (i<l.length)=true by rw [zD]; omega,bf,zC])
  (fun q m c0 s h=>by simp [iu,h]) l.length 0 c l (by omega) hc hb rfl
 exact ⟨c',s,lH,hI,fun q=>e q n (aO hn (by omega))⟩
theorem Mp {n:Nat} (hn:bq<=n) (c:et) (hc:ur c):∃ (x:au) (c':et),(x.ab.length<=16/\x.bB.length<=9)/\Cn c c'/\∀ k:au->et->Option R,ue n c k=k x c':=by
 obtain ⟨c1,l1,cf,h1,e1⟩:=R6 (R:=R) hn c.b c hc rfl (List.replicate 16 false) (by decide)
 obtain ⟨c2,l2,fJ,h2,e2⟩:=Q1 (R:=R) hn c.b c1 cf.1 cf.2 ((List.replicate 8 false).set 0 true) (by decide)
 have b2:=cf.tr fJ
 obtain ⟨o,c3,ja,e3⟩:=fK (R:=R) 10 (by decide) (by decide) c2 fJ.1
 have b3:=b2.tr ja
 obtain ⟨o2,c4,vJ,e4⟩:=fK (R:=R) 10 (by decide) (by decide) c3 ja.1
 have b4:=b3.tr vJ
 have h1:l1.length=16:=h1
 have h2:l2.length=8:=h2
 refine ⟨⟨bif o then l1.drop 1 else l1,bif o2 then l2++[true] else l2⟩,c4,⟨?_,?_⟩,b4,fun k=> ?_⟩
 ·cases o<;>simp [h1]
 ·cases o2<;>simp [h2]
 ·simp only [ue,lS]
  rw [aj (by rfl)]
  refine (e1 _).trans ((e2 _).trans ?_)
  have k1:xf 1 l1.length=true:=by rw [h1]; rfl
  have k2:bg (l2++[true])=true:=cn (by rw [zK,h2]; simp)
  rw [b2.mk',e3,b3.mk',wq,k1,k2]
  simp only [e4,b4.mk',bf]
  cases o<;>cases o2<;>rfl
def Lx (x:aR):Prop:=x.ax.length<=2/\(-1<=x.Kind/\x.Kind<=3)/\(-1<=x.Links/\x.Links<=201)/\∀ p∈x.ax,-1<=p/\p<=17
theorem Lx.of {x:aR} (h:bj x=true):Lx x:=by
 simp only [bj,zB,ak,beq_iff_eq,List.all_eq_true] at h
 obtain ⟨h1,h2,h3,h4,_⟩:=h
 refine ⟨by omega,by omega,by omega,fun p hp=> ?_⟩
 have:=(h4 p hp).1
 omega
theorem CH (c:et) (hc:ur c):∃ x c',Lx x/\Cn c c'/\∀ k:aR->et->Option R,mH c k=k x c':=by
 obtain ⟨x,c1,hx,cf,e1⟩:=AH (R:=R) c hc
 obtain ⟨r,c2,r1,r2,fJ,e2⟩:=bz (R:=R) 12 (by decide) (by decide) c1 cf.1
 have b2:=cf.tr fJ
 have hl:=js hx
 obtain ⟨a1,a2,a3,a4⟩:=Lx.of hx
 by_cases h0:r=0
 ·obtain ⟨z,c3,hz,ja,e3⟩:=fq (R:=R) [-1,0,3] (by decide) (by decide) c2 fJ.1
  have b3:=b2.tr ja
  simp only [zI,List.not_mem_nil,or_false] at hz
  refine ⟨⟨z,x.Links,x.ax⟩,c3,⟨a1,by show -1<=z/\z<=3; omega,a3,a4⟩,b3,fun k=> ?_⟩
  simp only [mH]
  rw [e1,cf.mk',e2,h0,show ((0:Int)==0)=true from rfl,bK,b2.mk',e3,b3.mk']
 ·by_cases h1:r=1
  ·obtain ⟨z,c3,hz,ja,e3⟩:=fq (R:=R) [-1,0,200,201] (by decide) (by decide) c2 fJ.1
   have b3:=b2.tr ja
   simp only [zI,List.not_mem_nil,or_false] at hz
   refine ⟨⟨x.Kind,z,x.ax⟩,c3,⟨a1,a2,by show -1<=z/\z<=201; omega,a4⟩,b3,fun k=> ?_⟩
   simp only [mH]
   rw [e1,cf.mk',e2,h1,show ((1:Int)==0)=false from rfl,br,show ((1:Int)==1)=true from rfl,bK,b2.mk',e3,b3.mk']
  ·by_cases h2:r=2
   ·obtain ⟨z,c3,hz,ja,e3⟩:=fq (R:=R) [-1,16,17] (by decide) (by decide) c2 fJ.1
    have b3:=b2.tr ja
    simp only [zI,List.not_mem_nil,or_false] at hz
    refine ⟨⟨x.Kind,x.Links,x.ax.set 0 z⟩,c3,⟨by show (x.ax.set 0 z).length<=2; rw [List.length_set]; exact a1,a2,a3,fun p hp=> ?_⟩,b3,fun k=> ?_⟩
    ·rcases mem_set hp with q | q
     ·exact a4 p q
     ·rw [q]; omega
    ·simp only [mH]
     rw [e1,cf.mk',e2,h2,show ((2:Int)==0)=false from rfl,br,show ((2:Int)==1)=false from rfl,br,show ((2:Int)==2)=true from rfl,bK,b2.mk',e3,aj (by rw [hl]; rfl),b3.mk']
   ·by_cases h3:r=3
    ·refine ⟨⟨x.Kind,x.Links,x.ax.drop 1⟩,c2,⟨by show (x.ax.drop 1).length<=2; rw [List.length_drop]; omega,a2,a3,fun p hp=>a4 p (List.mem_of_mem_drop hp)⟩,b2,fun k=> ?_⟩
     simp only [mH]
     rw [e1,cf.mk',e2,h3,show ((3:Int)==0)=false from rfl,br,show ((3:Int)==1)=false from rfl,br,show ((3:Int)==2)=false from rfl,br,show ((3:Int)==3)=true from rfl,bK,wq,aj (by rw [hl]; rfl),b2.mk']
    ·refine ⟨x,c2,⟨a1,a2,a3,a4⟩,b2,fun k=> ?_⟩
     simp only [mH]
     rw [e1,cf.mk',e2,beq_eq_false_iff_ne.2 h0,br,beq_eq_false_iff_ne.2 h1,br,beq_eq_false_iff_ne.2 h2,br,beq_eq_false_iff_ne.2 h3,br,b2.mk']
def L1 (b:Block):Prop:=b.ah.length<=4/\b.Text.size<=17/\∀ s∈b.ah,s.Name.size<=7/\ -1<=s.Ino/\s.Ino<=9
theorem uM {b:Block} (h:bw b=true) (hd:b.bZ=false):b.ah=[]/\b.Text.size<=16:=by
 simp only [bw,hd,zF,zB,beq_iff_eq,zD] at h
 exact ⟨List.length_eq_zero_iff.1 h.1,h.2⟩
theorem L1.of {b:Block} (h:bw b=true):L1 b:=by
 cases hd:b.bZ with
 | false =>
  obtain ⟨h1,h2⟩:=uM h hd
  exact ⟨by rw [h1]; exact Nat.zero_le _,by omega,fun s hs=>by rw [h1] at hs; exact (List.not_mem_nil hs).elim⟩
 | true =>
  obtain ⟨h1,h2,h3,_⟩:=(pA hd).1 h
  refine ⟨by omega,by rw [h2]; decide,fun s hs=> ?_⟩
  obtain ⟨i,hi,rfl⟩:=List.mem_iff_getElem.1 hs
  have:=h3 i (by omega)
  rw [fc _ _ hi] at this
  rcases this with q | ⟨q1,q2,q3⟩
  ·rw [q]; decide
  ·have:=(eP q1).2; omega
theorem CK {n:Nat} (hn:bq<=n) (c:et) (hc:ur c):∃ x c',L1 x/\Cn c c'/\∀ k:Block->et->Option R,kj n c k=k x c':=by
 obtain ⟨x,c1,hx,cf,e1⟩:=AU (R:=R) hn c hc
 obtain ⟨r,c2,r1,r2,fJ,e2⟩:=bz (R:=R) 12 (by decide) (by decide) c1 cf.1
 have b2:=cf.tr fJ
 obtain ⟨a1,a2,a3⟩:=L1.of hx
 have Cs:∀ k:Block->Option R,mb x k=k x:=fun k=>uY x (Nat.le_trans a1 (by decide)) k
 have SI:∀ (i:Nat) (s:Slot),(s.Name.size<=7/\ -1<=s.Ino/\s.Ino<=9)->∀ y∈x.ah.set i s,y.Name.size<=7/\ -1<=y.Ino/\y.Ino<=9:=fun i s hs y hy=>by
  rcases mem_set hy with q | q
  ·exact a3 y q
  ·rw [q]; exact hs
 have JC:0<x.ah.length->x.ah.length=4:=fun h=>by
  cases hd:x.bZ with
  | false=>rw [(uM hx hd).1] at h; cases h
  | true=>exact mw hx hd
 by_cases h0:r=0
 ·refine ⟨⟨!x.bZ,x.ah,x.Text⟩,c2,⟨a1,a2,a3⟩,b2,fun k=> ?_⟩
  simp only [kj]
  rw [e1,Cs,cf.mk',e2,h0,show ((0:Int)==0)=true from rfl,bK,b2.mk']
 ·by_cases h1:r=1
  ·obtain ⟨z,c3,z1,z2,ja,e3⟩:=bz (R:=R) 2 (by decide) (by decide) c2 fJ.1
   have b3:=b2.tr ja
   obtain ⟨zn,rfl⟩:=Int.eq_ofNat_of_zero_le z1
   obtain ⟨s,hs,e4⟩:=Rq (R:=R) hn (16+zn) (by omega) 65 (by decide) (by decide)
   refine ⟨⟨x.bZ,x.ah,s⟩,c3,⟨a1,by show s.size<=17; omega,a3⟩,b3,fun k=> ?_⟩
   simp only [kj]
   rw [e1,Cs,cf.mk',e2,h1,show ((1:Int)==0)=false from rfl,br,show ((1:Int)==1)=true from rfl,bK,b2.mk',e3,show (16:Int)+(zn:Int)=((16+zn:Nat):Int) by omega,ee (n:=16+zn) (by omega),e4,b3.mk']
  ·by_cases h2:r=2
   ·by_cases hp:0<x.ah.length
    ·have h4:=JC hp
     obtain ⟨z,c3,hz,ja,e3⟩:=fq (R:=R) [-1,0,8,9] (by decide) (by decide) c2 fJ.1
     have b3:=b2.tr ja
     simp only [zI,List.not_mem_nil,or_false] at hz
     refine ⟨⟨x.bZ,x.ah.set 1 ⟨(x.ah.getD 1 aq).Name,z⟩,x.Text⟩,c3,⟨by show (x.ah.set 1 _).length<=4; rw [List.length_set]; exact a1,a2,SI 1 _ ⟨(a3 _ (aV aq (by omega))).1,by show -1<=z; omega,by show z<=9; omega⟩⟩,b3,fun k=> ?_⟩
     simp only [kj]
     rw [e1,Cs,cf.mk',e2,h2,show ((2:Int)==0)=false from rfl,br,show ((2:Int)==1)=false from rfl,br,show ((2:Int)==2)=true from rfl,bK,decide_eq_true (show (0:Int)<(x.ah.length:Int) by omega),bK,b2.mk',e3,aj (by rw [h4]; rfl),b3.mk']
    ·refine ⟨x,c2,⟨a1,a2,a3⟩,b2,fun k=> ?_⟩
     simp only [kj]
     rw [e1,Cs,cf.mk',e2,h2,show ((2:Int)==0)=false from rfl,br,show ((2:Int)==1)=false from rfl,br,show ((2:Int)==2)=true from rfl,bK,decide_eq_false (show ¬ (0:Int)<(x.ah.length:Int) by omega),br,b2.mk']
   ·by_cases h3:r=3
    ·by_cases hp:0<x.ah.length
     ·have h4:=JC hp
      obtain ⟨z,c3,hz,ja,e3⟩:=tO (R:=R) [eS,S [65],S [97],S [97,98,99,100,101,102,103]] (by decide) (by decide) c2 fJ.1
      have b3:=b2.tr ja
      have Jq:z.size<=7:=by
       simp only [zI,List.not_mem_nil,or_false] at hz
       rcases hz with rfl | rfl | rfl | rfl<;>decide
      refine ⟨⟨x.bZ,x.ah.set 0 ⟨z,(x.ah.getD 0 aq).Ino⟩,x.Text⟩,c3,⟨by show (x.ah.set 0 _).length<=4; rw [List.length_set]; exact a1,a2,SI 0 _ ⟨Jq,(a3 _ (aV aq (by omega))).2⟩⟩,b3,fun k=> ?_⟩
      simp only [kj]
      rw [e1,Cs,cf.mk',e2,h3,show ((3:Int)==0)=false from rfl,br,show ((3:Int)==1)=false from rfl,br,show ((3:Int)==2)=false from rfl,br,show ((3:Int)==3)=true from rfl,bK,decide_eq_true (show (0:Int)<(x.ah.length:Int) by omega),bK,b2.mk',e3,aj (by rw [h4]; rfl),b3.mk']
     ·refine ⟨x,c2,⟨a1,a2,a3⟩,b2,fun k=> ?_⟩
      simp only [kj]
      rw [e1,Cs,cf.mk',e2,h3,show ((3:Int)==0)=false from rfl,br,show ((3:Int)==1)=false from rfl,br,show ((3:Int)==2)=false from rfl,br,show ((3:Int)==3)=true from rfl,bK,decide_eq_false (show ¬ (0:Int)<(x.ah.length:Int) by omega),br,b2.mk']
    ·refine ⟨x,c2,⟨a1,a2,a3⟩,b2,fun k=> ?_⟩
     simp only [kj]
     rw [e1,Cs,cf.mk',e2,beq_eq_false_iff_ne.2 h0,br,beq_eq_false_iff_ne.2 h1,br,beq_eq_false_iff_ne.2 h2,br,beq_eq_false_iff_ne.2 h3,br,b2.mk']
structure yY (d:aa):Prop where
 bb:d.au.ab.length<=16
 bi:d.au.bB.length<=9
 di:d.ad.length=7\/d.ad.length=8
 db:d.ab.length=16
 ino:∀ x∈d.ad,Lx x
 oO:∀ b∈d.ab,L1 b
theorem yY.of {d:aa} (h:ko d):yY d:=⟨by rw [h.bb]; decide,by rw [h.bi]; decide,.inr h.di,h.db,fun x hx=>Lx.of (h.ino x hx),fun b hb=>L1.of (h.oO b hb)⟩
theorem yY.sz {d:aa} (h:yY d):iw d:=by
 refine ⟨Nat.le_trans h.bb (by decide),Nat.le_trans h.bi (by decide),?_,by rw [h.db]; decide,fun x hx=>Nat.le_trans (h.ino x hx).1 (by decide),fun b hb=> ?_⟩
 ·rcases h.di with q | q<;>rw [q]<;>decide
 ·obtain ⟨a1,a2,a3⟩:=h.oO b hb
  exact ⟨Nat.le_trans a1 (by decide),Nat.le_trans a2 (by decide),fun s hs=>Nat.le_trans (a3 s hs).1 (by decide)⟩
theorem Eu {n:Nat} (hn:bq<=n) (c:et) (hc:ur c):∃ x c',yY x/\Cn c c'/\∀ k:aa->et->Option R,mJ n c k=k x c':=by
 obtain ⟨d,c1,hd,cf,e1⟩:=DX (R:=R) hn c hc
 obtain ⟨r,c2,r1,r2,fJ,e2⟩:=bz (R:=R) 12 (by decide) (by decide) c1 cf.1
 have b2:=cf.tr fJ
 have hA:=yY.of hd
 have Cs:∀ k:aa->Option R,iF n d k=k d:=fun k=>lR hn d hA.sz k
 by_cases h0:r=0
 ·obtain ⟨b,c3,hb,ja,e3⟩:=Mp (R:=R) hn c2 fJ.1
  have b3:=b2.tr ja
  refine ⟨⟨b,d.ad,d.ab⟩,c3,⟨hb.1,hb.2,hA.di,hA.db,hA.ino,hA.oO⟩,b3,fun k=> ?_⟩
  simp only [mJ]
  rw [e1,Cs,cf.mk',e2,h0,show ((0:Int)==0)=true from rfl,bK,b2.mk',e3,b3.mk']
 ·by_cases h1:r=1
  ·obtain ⟨z,c3,z1,z2,ja,e3⟩:=bz (R:=R) 8 (by decide) (by decide) c2 fJ.1
   have b3:=b2.tr ja
   obtain ⟨x,c4,hx,vJ,e4⟩:=CH (R:=R) c3 ja.1
   have b4:=b3.tr vJ
   refine ⟨⟨d.au,d.ad.set z.toNat x,d.ab⟩,c4,⟨hA.bb,hA.bi,by rw [List.length_set]; exact hA.di,hA.db,fun y hy=> ?_,hA.oO⟩,b4,fun k=> ?_⟩
   ·rcases mem_set hy with q | q
    ·exact hA.ino y q
    ·rw [q]; exact hx
   ·simp only [mJ]
    rw [e1,Cs,cf.mk',e2,h1,show ((1:Int)==0)=false from rfl,br,show ((1:Int)==1)=true from rfl,bK,b2.mk',e3,b3.mk',e4,aj (by rw [hd.di]; simp only [aZ,zB,zD]; omega),b4.mk']
  ·by_cases h2:r=2
   ·obtain ⟨z,c3,z1,z2,ja,e3⟩:=bz (R:=R) 16 (by decide) (by decide) c2 fJ.1
    have b3:=b2.tr ja
    obtain ⟨x,c4,hx,vJ,e4⟩:=CK (R:=R) hn c3 ja.1
    have b4:=b3.tr vJ
    refine ⟨⟨d.au,d.ad,d.ab.set z.toNat x⟩,c4,⟨hA.bb,hA.bi,hA.di,by rw [List.length_set]; exact hA.db,hA.ino,fun y hy=> ?_⟩,b4,fun k=> ?_⟩
    ·rcases mem_set hy with q | q
     ·exact hA.oO y q
     ·rw [q]; exact hx
    ·simp only [mJ]
     rw [e1,Cs,cf.mk',e2,h2,show ((2:Int)==0)=false from rfl,br,show ((2:Int)==1)=false from rfl,br,show ((2:Int)==2)=true from rfl,bK,b2.mk',e3,b3.mk',e4,aj (by rw [hd.db]; simp only [aZ,zB,zD]; omega),b4.mk']
   ·by_cases h3:r=3
    ·refine ⟨⟨d.au,d.ad.drop 1,d.ab⟩,c2,⟨hA.bb,hA.bi,.inl (by rw [List.length_drop,hd.di]),hA.db,fun y hy=>hA.ino y (List.mem_of_mem_drop hy),hA.oO⟩,b2,fun k=> ?_⟩
     simp only [mJ]
     rw [e1,Cs,cf.mk',e2,h3,show ((3:Int)==0)=false from rfl,br,show ((3:Int)==1)=false from rfl,br,show ((3:Int)==2)=false from rfl,br,show ((3:Int)==3)=true from rfl,bK,wq,aj (by rw [hd.di]; rfl),b2.mk']
    ·refine ⟨d,c2,hA,b2,fun k=> ?_⟩
     simp only [mJ]
     rw [e1,Cs,cf.mk',e2,beq_eq_false_iff_ne.2 h0,br,beq_eq_false_iff_ne.2 h1,br,beq_eq_false_iff_ne.2 h2,br,beq_eq_false_iff_ne.2 h3,br,b2.mk']
structure Mx (m:Mem):Prop where
 d:yY m.aa
 dy:20<=m.an.length/\m.an.length<=21
 dp:m.ae.length<=37
 nx:0<=m.Next/\m.Next<=100001
 dep:∀ x∈m.ae,ru x
theorem Mx.sz {m:Mem} (h:Mx m):eU m:=⟨h.d.sz,Nat.le_trans h.dy.2 (by decide),Nat.le_trans h.dp (by decide),h.dep⟩
theorem Mx.of {m:Mem} (h:j0 m):Mx m:=by
 have:=h.g.R.n1
 have:=h.g.R.n2
 have:=h.g.R.dy
 have:=h.len
 exact ⟨yY.of h.g.R.d,by omega,by omega,by omega,h.g.sz⟩
theorem Om {n:Nat} (hn:bq<=n) (c:et) (hc:ur c):∃ w c',Cn c c'/\AA 28 w/\WR w/\∀ k:Mem->et->Option R,w7 n c k=k w.Fs.Mem c':=by
 obtain ⟨w,c1,cf,hw,hr,e1⟩:=Kl (R:=R) hn c hc
 refine ⟨w,c1,cf,hw,hr,fun k=> ?_⟩
 simp only [w7]
 rw [e1,cf.mk']
theorem FY {n:Nat} (hn:bq<=n) (c:et) (hc:ur c):∃ x c',Mx x/\Cn c c'/\∀ k:Mem->et->Option R,jt n c k=k x c':=by
 obtain ⟨w,c1,cf,hw,hr,e1⟩:=Om (R:=R) hn c hc
 obtain ⟨r,c2,r1,r2,fJ,e2⟩:=bz (R:=R) 16 (by decide) (by decide) c1 cf.1
 have b2:=cf.tr fJ
 have hI:=hw.fs.m
 generalize w.Fs.Mem=m at *
 have hA:=Mx.of hI
 have Cs:∀ k:Mem->Option R,dw n m k=k m:=fun k=>dY hn m hA.sz k
 have hlen:=hI.len
 have SX:=hI.g.R.dy
 by_cases h0:r=0
 ·obtain ⟨d,c3,hd,ja,e3⟩:=Eu (R:=R) hn c2 fJ.1
  have b3:=b2.tr ja
  refine ⟨⟨d,m.an,m.ae,m.Next⟩,c3,⟨hd,hA.dy,hA.dp,hA.nx,hA.dep⟩,b3,fun k=> ?_⟩
  simp only [jt]
  rw [e1,Cs,cf.mk',e2,h0,show ((0:Int)==0)=true from rfl,bK,b2.mk',e3,b3.mk']
 ·by_cases h1:r=1
  ·refine ⟨⟨m.aa,m.an.drop 1,m.ae,m.Next⟩,c2,⟨hA.d,by show 20<=(m.an.drop 1).length/\_; rw [List.length_drop]; omega,hA.dp,hA.nx,hA.dep⟩,b2,fun k=> ?_⟩
   simp only [jt]
   rw [e1,Cs,cf.mk',e2,h1,show ((1:Int)==0)=false from rfl,br,show ((1:Int)==1)=true from rfl,bK,wq,aj (by rw [SX]; rfl),b2.mk']
  ·by_cases h2:r=2
   ·obtain ⟨z,c3,hz,ja,e3⟩:=fq (R:=R) [0,1,100000,100001] (by decide) (by decide) c2 fJ.1
    have b3:=b2.tr ja
    simp only [zI,List.not_mem_nil,or_false] at hz
    refine ⟨⟨m.aa,m.an,m.ae,z⟩,c3,⟨hA.d,hA.dy,hA.dp,by show 0<=z/\z<=100001; omega,hA.dep⟩,b3,fun k=> ?_⟩
    simp only [jt]
    rw [e1,Cs,cf.mk',e2,h2,show ((2:Int)==0)=false from rfl,br,show ((2:Int)==1)=false from rfl,br,show ((2:Int)==2)=true from rfl,bK,b2.mk',e3,b3.mk']
   ·by_cases h3:r=3
    ·by_cases hp:0<m.ae.length
     ·obtain ⟨x,c3,x1,x2,ja,e3⟩:=bz (R:=R) (m.ae.length:Int) (by omega) (by omega) c2 fJ.1
      have b3:=b2.tr ja
      obtain ⟨y,c4,y1,y2,vJ,e4⟩:=bz (R:=R) 7 (by decide) (by decide) c3 ja.1
      have b4:=b3.tr vJ
      obtain ⟨z,c5,hz,zt,e5⟩:=fq (R:=R) [-1,0,3,16,17] (by decide) (by decide) c4 vJ.1
      have b5:=b4.tr zt
      have zb:aZ x m.ae.length=true:=by simp only [aZ,zB,zD]; omega
      have MR:=hA.dep _ (aV aT (show x.toNat<m.ae.length by omega))
      have hg:∀ y:bO,(m.ae.set x.toNat y).getD x.toNat aT=y:=fun y=>by rw [cF,if_pos ⟨rfl,by omega⟩]
      refine ⟨⟨m.aa,m.an,(m.ae.set x.toNat { m.ae.getD x.toNat aT with Kind:=y }).set x.toNat { m.ae.getD x.toNat aT with Kind:=y,Block:=z },m.Next⟩,c5,⟨hA.d,hA.dy,by show List.length _<=37; rw [List.length_set,List.length_set]; exact hA.dp,hA.nx,fun d hd=> ?_⟩,b5,fun k=> ?_⟩
      ·rcases mem_set hd with q | q
       ·rcases mem_set q with q | q
        ·exact hA.dep d q
        ·rw [q]; exact MR
       ·rw [q]; exact MR
      ·simp only [jt]
       rw [e1,Cs,cf.mk',e2,h3,show ((3:Int)==0)=false from rfl,br,show ((3:Int)==1)=false from rfl,br,show ((3:Int)==2)=false from rfl,br,show ((3:Int)==3)=true from rfl,bK,
        decide_eq_true (show (0:Int)<(m.ae.length:Int) by omega),bK,b2.mk',e3,b3.mk',e4,aj zb,b4.mk',e5,List.length_set,aj zb,b5.mk']
       simp only [hg]
     ·refine ⟨m,c2,hA,b2,fun k=> ?_⟩
      simp only [jt]
      rw [e1,Cs,cf.mk',e2,h3,show ((3:Int)==0)=false from rfl,br,show ((3:Int)==1)=false from rfl,br,show ((3:Int)==2)=false from rfl,br,show ((3:Int)==3)=true from rfl,bK,
        decide_eq_false (show ¬ (0:Int)<(m.ae.length:Int) by omega),br,b2.mk']
    ·by_cases h4:r=4
     ·by_cases hp:0<m.ae.length
      ·refine ⟨⟨m.aa,m.an,m.ae++[m.ae.getD 0 aT],m.Next⟩,c2,⟨hA.d,hA.dy,by show List.length _<=37; rw [zK,zL]; omega,hA.nx,fun d hd=> ?_⟩,b2,fun k=> ?_⟩
       ·rcases zH.1 hd with q | q
        ·exact hA.dep d q
        ·rw [zS] at q; rw [q]; exact hA.dep _ (aV aT hp)
       ·simp only [jt]
        rw [e1,Cs,cf.mk',e2,h4,show ((4:Int)==0)=false from rfl,br,show ((4:Int)==1)=false from rfl,br,show ((4:Int)==2)=false from rfl,br,show ((4:Int)==3)=false from rfl,br,show ((4:Int)==4)=true from rfl,bK,
         decide_eq_true (show (0:Int)<(m.ae.length:Int) by omega),bK,aj (by simp only [aZ,zB,zD]; omega),aj (cn (by rw [zK,zL]; omega)),b2.mk']
      ·refine ⟨m,c2,hA,b2,fun k=> ?_⟩
       simp only [jt]
       rw [e1,Cs,cf.mk',e2,h4,show ((4:Int)==0)=false from rfl,br,show ((4:Int)==1)=false from rfl,br,show ((4:Int)==2)=false from rfl,br,show ((4:Int)==3)=false from rfl,br,show ((4:Int)==4)=true from rfl,bK,
         decide_eq_false (show ¬ (0:Int)<(m.ae.length:Int) by omega),br,b2.mk']
     ·refine ⟨m,c2,hA,b2,fun k=> ?_⟩
      simp only [jt]
      rw [e1,Cs,cf.mk',e2,beq_eq_false_iff_ne.2 h0,br,beq_eq_false_iff_ne.2 h1,br,beq_eq_false_iff_ne.2 h2,br,beq_eq_false_iff_ne.2 h3,br,beq_eq_false_iff_ne.2 h4,br,b2.mk']
theorem Gj {n:Nat} (hn:bq<=n) (code:List UInt8) (hc:code.length<=cO):∃ c:et,ur c/\∀ k:et->Option R,sX n code k=k c:=by
 have lH:code.length<=2097152:=hc
 have key:∀ (r i:Nat) (h:Int),i+r=code.length->∃ h':Int,∀ (q:Int->Option R) (m:Nat),r<m->ju code q m h (i:Int)=q h':=by
  intro r
  induction r with
  | zero =>
   intro i h h1
   refine ⟨h,fun q m hm=> ?_⟩
   match m,hm with
   | m+1,_ =>
    simp only [ju]
    rw [bk,show decide (i<code.length)=false by simp; omega,Bool.false_and,br]
  | succ r ih =>
   intro i h h1
   by_cases h4:(i:Int)<4000
   ·obtain ⟨h',e⟩:=ih (i+1) (BF .i64 (aC ((aC ((aC (h*131))+(aC (((code.getD (i:Int).toNat 0).toNat:Int)))))+7)) 1073741823) (by omega)
    refine ⟨h',fun q m hm=> ?_⟩
    match m,hm with
    | m+1,hm =>
     simp only [ju]
     rw [bk,show decide (i<code.length)=true by rw [zD]; omega,decide_eq_true h4,Bool.and_self,bK,aG,show decide (i<code.length)=true by rw [zD]; omega,bf,bM (by omega)]
     exact e q m (by omega)
   ·refine ⟨h,fun q m hm=> ?_⟩
    match m,hm with
    | m+1,_ =>
     simp only [ju]
     rw [decide_eq_false h4,Bool.and_false,br]
 obtain ⟨h',e⟩:=key code.length 0 (aC (37701+(code.length:Int))) (by omega)
 refine ⟨⟨code,0,h'⟩,⟨Int.le_refl 0,hc⟩,fun k=> ?_⟩
 simp only [sX]
 exact e _ n (aO hn (by omega))
theorem NC {n:Nat} (hn:bq<=n) (code:List UInt8) (hc:code.length<=cO):∃ d,ko d/\∀ k:aa->Option R,qz n code k=k d:=by
 obtain ⟨c,h1,e1⟩:=Gj (R:=R) hn code hc
 obtain ⟨d,c2,hd,fJ,e2⟩:=DX (R:=R) hn c h1
 refine ⟨d,hd,fun k=> ?_⟩
 simp only [qz]
 rw [e1,e2,lR hn d hd.t.sz]
theorem pL {α:Type} (P:α->Bool) (x:α) (l:List α):(P x=true/\bE P (x::l)=0)\/(P x=false/\bE P l= -1/\bE P (x::l)= -1)\/(P x=false/\0<=bE P l/\bE P (x::l)=bE P l+1):=by
 simp only [bE]
 cases h:P x with
 | true=>exact .inl ⟨rfl,rfl⟩
 | false =>
  rcases gF P l with h | ⟨j,h,_⟩
  ·rw [h]; exact .inr (.inl ⟨rfl,rfl,rfl⟩)
  ·rw [h]; exact .inr (.inr ⟨rfl,by omega,rfl⟩)
theorem AJ {α:Type} {L:Nat->Int->Option R} {l:List α} (d:α) {P:α->Bool} {e:Int->Option R} {B:Nat} (hl:l.length<=4611686018427387904)
  (hs:∀ m i,B<m->i<l.length->L (m+1) (i:Int)=bif P (l.getD i d) then e i else L m (aC ((i:Int)+1))) (hq:∀ m,L (m+1) (l.length:Int)=e (-1)) {n:Nat} (hn:l.length+B<n):L n 0=e (bE P l):=by
 have key:∀ (s:List α) (j m:Nat),s=l.drop j->j<=l.length->s.length+B<m->L m (j:Int)=e (if 0<=bE P s then (j:Int)+bE P s else -1):=by
  intro s
  induction s with
  | nil =>
   intro j m h1 h2 h3
   have:j=l.length:=by have:=congrArg List.length h1; simp at this; omega
   match m,h3 with
   | m+1,_=>rw [this,hq]; rfl
  | cons x s ih =>
   intro j m h1 h2 h3
   have hj:j<l.length:=by have:=congrArg List.length h1; simp at this; omega
   have hd:=cQ d hj
   rw [← h1] at hd; injection hd with hb CZ
   rw [zR] at h3
   match m,h3 with
   | m+1,h3 =>
    rw [hs m j (by omega) hj,← hb]
    rcases pL P x s with ⟨q1,q2⟩ | ⟨q1,q2,q3⟩ | ⟨q1,q2,q3⟩
    ·rw [q1,q2,if_pos (Int.le_refl 0),Int.add_zero]; rfl
    ·rw [q1,br,bM (by omega),ih (j+1) m CZ (by omega) (by omega),q2,q3,if_neg (by decide),if_neg (by decide)]
    ·rw [q1,br,bM (by omega),ih (j+1) m CZ (by omega) (by omega),q3,if_pos q2,if_pos (by omega)]
     congr 1; omega
 have:=key l 0 n (by simp) (by omega) hn
 rw [show ((0:Nat):Int)=0 from rfl] at this
 rw [this]
 congr 1
 rcases gF P l with h | ⟨j,h,_⟩
 ·rw [h]; rfl
 ·rw [h,if_pos (by omega)]; omega
theorem fH (x a b:Int) (k:Bool->Option R):dU x a b k=k (within x a b):=rfl
theorem sB (l:List Bool) (h:l.length<=cO) (k:List Bool->Option R):mP l k=k l:=by
 have h:l.length<=2097152:=h
 simp only [mP,List.nil_append]; rw [aj (cn (by omega))]
theorem CE (l:List Int) (h:l.length<=cO) (k:List Int->Option R):qD l k=k l:=by
 have h:l.length<=2097152:=h
 simp only [qD,List.nil_append]; rw [aj (cn (by omega))]
theorem CJ (b:au) (h1:b.ab.length<=cO) (h2:b.bB.length<=cO) (k:au->Option R):qP b k=k b:=by
 simp only [qP]; rw [sB _ h1,sB _ h2]
theorem BU (x:aR) (h:z6 x) (k:aR->Option R):po x k=k x:=by
 simp only [po]; rw [CE _ h]
theorem BK (b:Block) (h:b.ah.length<=cO) (k:Block->Option R):pa b k=k b:=by
 have h:b.ah.length<=2097152:=h
 simp only [pa,List.nil_append]; rw [aj (cn (by omega))]
theorem CU {n:Nat} (hn:bq<=n) (d:aa) (hd:iw d) (k:aa->Option R):qG n d k=k d:=by
 have l1:d.ad.length<=2097152:=hd.di
 have l2:d.ab.length<=2097152:=hd.db
 simp only [qG]
 rw [CJ _ hd.bb hd.bi]
 have h2:=pY (R:=R) (L:=fF (d.ab.length:Int) d.ab (fun eF=>k ⟨d.au,d.ad,eF⟩)) (l:=d.ab) aA (f:=id) (B:=0) (q:=fun eF=>k ⟨d.au,d.ad,eF⟩) (by omega)
  (fun m i acc _ hi ha=>by
   simp only [fF,bk,aG,hi,zV,bf,zE,zC]
   rw [BK _ (hd.oO _ (aV aA hi)).1,aj (cm ha (by omega) (by simp))]; rfl) (fun m acc=>by simp only [fF,Int.lt_irrefl,decide_false,zF]) (n:=n) (aO hn (by omega))
 have h1:=pY (R:=R) (L:=iJ (d.ad.length:Int) d.ad (fun v=>fF (d.ab.length:Int) d.ab (fun eF=>k ⟨d.au,v,eF⟩) n 0 [])) (l:=d.ad) ay (f:=id) (B:=0) (q:=fun v=>fF (d.ab.length:Int) d.ab (fun eF=>k ⟨d.au,v,eF⟩) n 0 []) (by omega)
  (fun m i acc _ hi ha=>by
   simp only [iJ,bk,aG,hi,zV,bf,zE,zC]
   rw [BU _ (hd.ino _ (aV ay hi)),aj (cm ha (by omega) (by simp))]; rfl) (fun m acc=>by simp only [iJ,Int.lt_irrefl,decide_false,zF]) (n:=n) (aO hn (by omega))
 rw [List.map_id] at h1 h2
 exact h1.trans h2
theorem GY {n:Nat} (hn:bq<=n) (d:aa) (hd:iw d) (k:Mem->Option R):wQ n d k=k (lV d):=by
 simp only [wQ]; rw [CU hn d hd]; rfl
theorem E5 {n:Nat} (hn:bq<=n) (x:aR) (hx:z6 x) (k:Bool->Option R):tK n x k=k (bj x):=by
 have zm:x.ax.length<=2097152:=hx
 simp only [tK,fH]
 have h:=eZ (R:=R) (L:=jL (x.ax.length:Int) x.Kind x.ax (fun fI=>k fI) (k (((within x.Kind 0 2&&(bif within x.Kind 0 2 then within x.Links 0 200 else false))&&((x.ax.length:Int)==2))&&((!(x.Kind==0))||(x.Links==0))))) (l:=x.ax) 0 (B:=0)
  (P:=fun p=>within p 0 16&&(x.Kind != 0||p==0)) (e:=k false) (q:=k (((within x.Kind 0 2&&(bif within x.Kind 0 2 then within x.Links 0 200 else false))&&((x.ax.length:Int)==2))&&((!(x.Kind==0))||(x.Links==0)))) (by omega)
  (fun m i _ hi=>by
   simp only [jL,bk,aG,hi,zV,bf,zE,zC,fH,bne]
   cases within (x.ax.getD i 0) 0 16<;>cases x.Kind==0<;>cases x.ax.getD i 0==0<;>rfl) (fun m=>by simp [jL]) (n:=n) (aO hn (by omega))
 refine h.trans ?_
 rw [show (2:Int)=((2:Nat):Int) from rfl,cG]
 simp only [bj,bne]
 generalize (x.ax.all fun p=>within p 0 16&&(!x.Kind==0||p==0))=a
 have e:within x.Kind 0 ((2:Nat):Int)=within x.Kind 0 2:=rfl
 rw [e]
 generalize within x.Kind 0 2=b
 generalize within x.Links 0 200=c
 generalize (x.ax.length==2)=d
 cases a<;>cases b<;>cases c<;>cases d<;>cases x.Kind==0<;>cases x.Links==0<;>rfl
theorem yF {n:Nat} (hn:bq<=n) (s:ByteArray) (hs:s.size<=cO) (k:Bool->Option R):sU n s k=k (bH s):=by
 have Fu:s.data.toList.length<=2097152:=hs
 simp only [sU,fH,bH]
 have:=eZ (R:=R) (L:=kG s (s.size:Int) (fun x=>k x) (k (within s.size 1 6))) (l:=s.data.toList) 0 (B:=0) (P:=Tg) (e:=k false) (q:=k (within s.size 1 6)) (by omega)
  (fun m i _ hi=>by
   have rT:i<s.size:=hi
   simp only [kG,bk,aG,rT,zV,Bool.or_true,bf,zE,zC,fH,Tg]
   have hb:=yD s i
   rw [ee (by omega),Ge]
   generalize s.data.toList.getD i 0=x
   have e1:within ((x.toNat:Nat):Int) 97 122=(decide (97<=x.toNat)&&decide (x.toNat<=122)):=by
    simp only [within]; congr 1<;>exact decide_eq_decide.2 (by omega)
   have e2:within ((x.toNat:Nat):Int) 48 57=(decide (48<=x.toNat)&&decide (x.toNat<=57)):=by
    simp only [within]; congr 1<;>exact decide_eq_decide.2 (by omega)
   rw [e1,e2]
   generalize (decide (97<=x.toNat)&&decide (x.toNat<=122))=a
   generalize (decide (48<=x.toNat)&&decide (x.toNat<=57))=b
   cases a<;>cases b<;>rfl)
  (fun m=>by
   have:(s.data.toList.length:Int)=(s.size:Int):=rfl
   simp [kG,this]) (n:=n) (aO hn (by omega))
 refine this.trans ?_
 rw [JY]; congr 1
 cases List.all s.data.toList Tg<;>rfl
theorem GA {n:Nat} (hn:bq<=n) (b:Block) (hb:b.ah.length<=cO) (name:ByteArray) (k:Int->Option R):sm n b name k=k (dE b name):=by
 have JE:b.ah.length<=2097152:=hb
 simp only [sm,dE,ea]
 cases name==eS with
 | true=>rfl
 | false =>
  simp only [zF]
  exact AJ (R:=R) (L:=fun m i=>bD (b.ah.length:Int) b.ah (fun x Hz=>k x) (fun HH=>k (-1)) m i name) (l:=b.ah) aq (B:=0) (P:=fun s=>s.Name==name) (e:=k) (by omega)
   (fun m i _ hi=>by simp only [bD,vr,bk,aG,hi,zV,bf,zE,zC]) (fun m=>by simp [bD]) (aO hn (by omega))
theorem FU (b:Block) (i:Nat) (hi:i<b.ah.length) (cL:((b.ah.getD i aq).Name==eS)=false):(dE b (b.ah.getD i aq).Name==(i:Int))=(List.range' 0 i).all fun k=> !((b.ah.getD k aq).Name==(b.ah.getD i aq).Name):=by
 simp only [dE,cL,zF]
 generalize hx:(b.ah.getD i aq).Name=x
 have key:∀ (l:List Slot) (i:Nat),i<l.length->(l.getD i aq).Name=x->(bE (fun s=>s.Name==x) l==(i:Int))=(List.range' 0 i).all fun k=> !((l.getD k aq).Name==x):=by
  intro l
  induction l with
  | nil=>intro i h; cases h
  | cons y l ih =>
   intro i h Wz
   cases i with
   | zero =>
    have:bE (fun s:Slot=>s.Name==x) (y::l)=0:=by
     have hy:y.Name=x:=Wz
     simp only [bE,hy,beq_self_eq_true,zE]
    rw [this]; rfl
   | succ i =>
    have h2:=ih i (by simpa using h) (by simpa using Wz)
    have hr:(List.range' 0 (i+1)).all (fun k=> !(((y::l).getD k aq).Name==x))=(!(y.Name==x)&&(List.range' 0 i).all fun k=> !((l.getD k aq).Name==x)):=by
     rw [List.range'_succ,List.all_cons]
     congr 1
     rw [show (0+1:Nat)=1 from rfl,← List.map_add_range' (a:=1) (s:=0),List.all_map]
     congr 1
     funext k
     simp [Nat.add_comm 1 k]
    rw [hr,← h2]
    rcases pL (fun s:Slot=>s.Name==x) y l with ⟨q1,q2⟩ | ⟨q1,q2,q3⟩ | ⟨q1,q2,q3⟩
    ·rw [q2,q1]
     have:((0:Int)==((i+1:Nat):Int))=false:=by rw [beq_eq_false_iff_ne]; omega
     rw [this]; rfl
    ·rw [q3,q1,q2]
     have e1:((-1:Int)==((i+1:Nat):Int))=false:=by rw [beq_eq_false_iff_ne]; omega
     have e2:((-1:Int)==(i:Int))=false:=by rw [beq_eq_false_iff_ne]; omega
     rw [e1,e2]; rfl
    ·rw [q3,q1]
     have:(bE (fun s:Slot=>s.Name==x) l+1==((i+1:Nat):Int))=(bE (fun s:Slot=>s.Name==x) l==(i:Int)):=by
      rw [Bool.eq_iff_iff,beq_iff_eq,beq_iff_eq]; omega
     rw [this]; rfl
 exact key b.ah i hi hx
theorem EA {n:Nat} (hn:bq<=n) (b:Block) (hb:tB b) (k:Bool->Option R):tG n b k=k (bw b):=by
 have JE:b.ah.length<=2097152:=hb.1
 simp only [tG,bw]
 cases hd:b.bZ with
 | false =>
  simp only [zN,zE,zF]
  congr 2
  ·exact cG b.ah.length 0
  ·exact decide_eq_decide.2 (by omega)
 | true =>
  simp only [zM,zE,zF]
  have hl:=j9 (R:=R) (L:=ie n (b.ah.length:Int) true b.Text b.ah b.ah (fun x=>k x) (k (((b.ah.length:Int)==4)&&(b.Text==eS)))) (len:=b.ah.length) (B:=0) (p:=rG b.ah) (e:=k false) (q:=k (((b.ah.length:Int)==4)&&(b.Text==eS))) (by omega)
   (fun m i hm hi=>by
    have hn4:(b.ah.getD i aq).Name.size<=cO:=hb.2.2 _ (aV aq hi)
    simp only [ie,wh,fH,bk,aG,hi,zV,zE,bf,zC,rG]
    cases h1:(b.ah.getD i aq).Name==eS&&(b.ah.getD i aq).Ino==0 with
    | true=>rfl
    | false =>
     simp only [zF,Bool.false_or]
     rw [yF hn _ hn4]
     have hso:∀ k:Int->Option R,sm n ⟨true,b.ah,b.Text⟩ (b.ah.getD i aq).Name k=k (dE ⟨true,b.ah,b.Text⟩ (b.ah.getD i aq).Name):=fun k=>GA hn ⟨true,b.ah,b.Text⟩ hb.1 _ k
     rw [hso]
     cases Cj:bH (b.ah.getD i aq).Name with
     | false=>rfl
     | true =>
      have cL:((b.ah.getD i aq).Name==eS)=false:=beq_eq_false_iff_ne.2 (fL Cj)
      rw [← FU ⟨true,b.ah,b.Text⟩ i hi cL]
      cases within (b.ah.getD i aq).Ino 1 8 with
      | false=>rfl
      | true =>
       simp only [zM,zN,zE,Bool.or_false,Bool.false_or,Bool.true_and]
       cases dE ⟨true,b.ah,b.Text⟩ (b.ah.getD i aq).Name==(i:Int)<;>rfl) (fun m=>by simp [ie]) b.ah.length n 0 (by omega) (aO hn (by omega))
  refine hl.trans ?_
  rw [show (4:Int)=((4:Nat):Int) from rfl,cG]
  cases h4:b.ah.length==4 with
  | false=>simp
  | true =>
   have Y4:b.ah.length=4:=by simpa using h4
   rw [Y4]
   show _=k ((true&&(b.Text==eS))&&xV b.ah)
   simp only [xV]
   cases List.all (List.range' 0 4) (rG b.ah)<;>cases b.Text==eS<;>rfl
theorem Gm {n:Nat} (hn:bq<=n) (d:aa) (hd:iw d) (k:Bool->Option R):wa n d k=k (ll d):=by
 have l1:d.ad.length<=2097152:=hd.di
 have l2:d.ab.length<=2097152:=hd.db
 simp only [wa,Be,ll,pM]
 have h2:=eZ (R:=R) (L:=hZ n (d.ab.length:Int) d.ab (fun x=>k x) (k ((((d.au.ab.length:Int)==16)&&((d.au.bB.length:Int)==8))&&((d.ad.length:Int)==8)&&((d.ab.length:Int)==16)))) (l:=d.ab) aA (B:=0) (P:=bw) (e:=k false) (q:=k ((((d.au.ab.length:Int)==16)&&((d.au.bB.length:Int)==8))&&((d.ad.length:Int)==8)&&((d.ab.length:Int)==16))) (by omega)
  (fun m i _ hi=>by
   simp only [hZ,bk,aG,hi,zV,bf,zE,zC]
   rw [EA hn _ (hd.oO _ (aV aA hi))]
   cases bw (d.ab.getD i aA)<;>rfl) (fun m=>by simp [hZ]) (n:=n) (aO hn (by omega))
 have h1:=eZ (R:=R) (L:=kL n (d.ad.length:Int) d.ad (fun x=>k x) (hZ n (d.ab.length:Int) d.ab (fun x=>k x) (k ((((d.au.ab.length:Int)==16)&&((d.au.bB.length:Int)==8))&&((d.ad.length:Int)==8)&&((d.ab.length:Int)==16))) n 0)) (l:=d.ad) ay (B:=0) (P:=bj) (e:=k false) (q:=hZ n (d.ab.length:Int) d.ab (fun x=>k x) (k ((((d.au.ab.length:Int)==16)&&((d.au.bB.length:Int)==8))&&((d.ad.length:Int)==8)&&((d.ab.length:Int)==16))) n 0) (by omega)
  (fun m i _ hi=>by
   simp only [kL,bk,aG,hi,zV,bf,zE,zC]
   rw [E5 hn _ (hd.ino _ (aV ay hi))]
   cases bj (d.ad.getD i ay)<;>rfl) (fun m=>by simp [kL]) (n:=n) (aO hn (by omega))
 refine h1.trans ?_
 rw [h2,show (16:Int)=((16:Nat):Int) from rfl,show (8:Int)=((8:Nat):Int) from rfl,cG,cG,cG,cG]
 generalize (d.au.ab.length==16)=a
 generalize (d.au.bB.length==8)=b
 generalize (d.ad.length==8)=c
 generalize (d.ab.length==16)=e
 cases List.all d.ad bj<;>cases List.all d.ab bw<;>cases a<;>cases b<;>cases c<;>cases e<;>rfl
theorem Ec (d:aa) (hd:d.ab.length<=cO) (p:Int) (k:Block->Option R):tF d p k=k (cP d p).1:=by
 have zo:d.ab.length<=2097152:=hd
 simp only [tF,fH,cP]
 cases h:within p 1 d.ab.length with
 | false=>rfl
 | true =>
  rw [ak] at h
  simp only [zM,zF,zE]
  rw [bJ (by omega) (by omega),aj (bu h.1 h.2)]; rfl
def EU (d:aa) (i:Int):aR:=bif within i 1 d.ad.length then ai d i else ⟨0,0,[]⟩
theorem Er (d:aa) (hd:d.ad.length<=cO) (i:Int) (k:aR->Option R):tX d i k=k (EU d i):=by
 have zo:d.ad.length<=2097152:=hd
 simp only [tX,fH,EU]
 cases h:within i 1 d.ad.length with
 | false=>rfl
 | true =>
  rw [ak] at h
  simp only [zM,zF,zE]
  rw [bJ (by omega) (by omega),aj (bu h.1 h.2)]; rfl
theorem CP {n:Nat} (hn:bq<=n) (m:Mem) (hm:m.ae.length<=cO) (id:Int) (k:Int->Option R):qj n m id k=k (bE (fun d=>d.Id==id) m.ae):=by
 have MP:m.ae.length<=2097152:=hm
 simp only [qj,dM]
 exact AJ (R:=R) (L:=fun mm i=>bA (m.ae.length:Int) m.ae (fun x Hz=>k x) (fun HH=>k (-1)) mm i id) (l:=m.ae) aT (B:=0) (P:=fun d=>d.Id==id) (e:=k) (by omega)
   (fun mm i _ hi=>by simp only [bA,qk,bk,aG,hi,zV,bf,zE,zC]) (fun mm=>by simp [bA]) (aO hn (by omega))
theorem AP {α β:Type} [BEq β] (f:α->β) (d:α) (x:β):∀ (l:List α) (i:Nat),i<l.length->(f (l.getD i d)==x)=true->(bE (fun y=>f y==x) l==(i:Int))=(List.range' 0 i).all fun k=> !(f (l.getD k d)==x)
 | [],i,h,_=>by cases h
 | y::l,0,h,hx=>by
  have hy:(f y==x)=true:=hx
  have:bE (fun y=>f y==x) (y::l)=0:=by simp only [bE,hy,zE]
  rw [this]; rfl
 | y::l,i+1,h,hx=>by
  have h2:=AP f d x l i (by simpa using h) (by simpa using hx)
  have hr:(List.range' 0 (i+1)).all (fun k=> !(f ((y::l).getD k d)==x))=(!(f y==x)&&(List.range' 0 i).all fun k=> !(f (l.getD k d)==x)):=by
   rw [List.range'_succ,List.all_cons]
   congr 1
   rw [show (0+1:Nat)=1 from rfl,← List.map_add_range' (a:=1) (s:=0),List.all_map]
   congr 1
   funext k
   simp [Nat.add_comm 1 k]
  rw [hr,← h2]
  rcases pL (fun y=>f y==x) y l with ⟨q1,q2⟩ | ⟨q1,q2,q3⟩ | ⟨q1,q2,q3⟩
  ·rw [q2,q1]
   have:((0:Int)==((i+1:Nat):Int))=false:=by rw [beq_eq_false_iff_ne]; omega
   rw [this]; rfl
  ·rw [q3,q1,q2]
   have e1:((-1:Int)==((i+1:Nat):Int))=false:=by rw [beq_eq_false_iff_ne]; omega
   have e2:((-1:Int)==(i:Int))=false:=by rw [beq_eq_false_iff_ne]; omega
   rw [e1,e2]; rfl
  ·rw [q3,q1]
   have:(bE (fun y=>f y==x) l+1==((i+1:Nat):Int))=(bE (fun y=>f y==x) l==(i:Int)):=by
    rw [Bool.eq_iff_iff,beq_iff_eq,beq_iff_eq]; omega
   rw [this]; rfl
def A0 (m:Mem) (d:bO):Bool:=bF m d&&(d.ab.all (fun p=>within p 1 16)&&cC m d)
theorem Jf {n:Nat} (hn:bq<=n) (m:Mem) (hm:iw m.aa) (hd:ko m.aa) (hnx:1<=m.Next/\m.Next<=100000) (d:bO) (hs:ru d) (k:Bool->Option R):z5 n m d k=k (A0 m d):=by
 have Yt:d.ab.length<=2097152:=hs.2
 simp only [z5,tz,wh,fH]
 rw [bJ (x:=m.Next) (by omega) (by omega)]
 generalize hQ:(bif (((((!(within d.Id 1 (m.Next-1)&&_))||_)||_)||_)||_)||_ then _ else _:Option R)=Q
 have l1:=eZ (R:=R) (L:=lQ (d.ab.length:Int) d.ab (fun x=>k x) Q) (l:=d.ab) 0 (B:=0) (P:=fun p=>within p 1 16) (e:=k false) (q:=Q) (by omega)
  (fun m' j _ hj=>by
   simp only [lQ,tz,fH,bk,aG,hj,zV,zE,bf,zC]
   cases within (d.ab.getD j 0) 1 16<;>rfl) (fun m'=>by simp [lQ]) (n:=n) (aO hn (by omega))
 refine l1.trans ?_
 simp only [A0]
 have hq:Q=k (bF m d&&cC m d):=by
  rw [← hQ]
  simp only [bF]
  cases h1:within d.Id 1 (m.Next-1); · rfl
  cases h7:within d.bC 0 (m.Next-1)
  ·simp only [Bool.and_false,Bool.false_and]; rfl
  cases h2:within d.Kind 1 6; · rfl
  cases h3:within d.Ino 1 8; · rfl
  cases h4:within d.Ptr 0 1; · rfl
  cases h5:within d.Block 0 16; · rfl
  cases h6:within d.Slot 0 3; · rfl
  simp only [zM,zN,zE,zF,Bool.or_false,Bool.true_and,Bool.and_true]
  rw [ak] at h3 h4 h5 h6
  rw [Ec _ hm.db]
  simp only [uW,th]
  have SL:EU m.aa d.Ino=ai m.aa d.Ino:=by
   simp only [EU,hd.di,show within d.Ino 1 ((8:Nat):Int)=true from ak.2 h3,zE]
  have iU:0<d.Block->(cP m.aa d.Block).1=aH m.aa d.Block:=fun h0=>by
   simp only [cP,hd.db,show within d.Block 1 ((16:Nat):Int)=true from ak.2 ⟨by omega,h5.2⟩,zE]
  have Vy:(ai m.aa d.Ino).ax.length=2:=hd.rK h3.1 h3.2
  simp only [cC]
  cases vN:(d.Kind==1)||(d.Kind==6) with
  | true =>
   simp only [zE]
   rw [Er _ hm.di,SL]
   cases h0:decide (0<d.Block) with
   | false=>rfl
   | true =>
    simp only [zE,zM,Bool.false_or,Bool.true_and]
    rw [aj (by rw [Vy]; simp only [aZ,zB,zD]; omega)]
  | false =>
   simp only [zF]
   cases rW:(d.Kind==2)||(d.Kind==3) with
   | true =>
    simp only [zE]
    cases h0:decide (0<d.Block) with
    | false=>rfl
    | true =>
     rw [iU (of_decide_eq_true h0)]
     simp only [Bool.true_and]
     cases HK:(aH m.aa d.Block).bZ with
     | false=>rfl
     | true =>
      have hB:lz d.Block:=⟨of_decide_eq_true h0,h5.2⟩
      have h4s:=mw (hd.nz hB.1 hB.2) HK
      have zb:aZ d.Slot (aH m.aa d.Block).ah.length=true:=by rw [h4s]; simp only [aZ,zB,zD]; omega
      rw [zb]
      simp only [zM,Bool.false_or,Bool.or_true,bf,Bool.true_and]
      congr 1
      cases he:((aH m.aa d.Block).ah.getD d.Slot.toNat aq).Ino==d.Ino with
      | false=>rw [Bool.and_false]
      | true =>
       rw [beq_iff_eq] at he
       rw [Bool.and_true,Bool.not_eq_true',beq_eq_false_iff_ne]
       intro hz
       rcases hd.t.vQ hB d.Slot.toNat with q | q
       ·have q':(aH m.aa d.Block).ah.getD d.Slot.toNat aq=aq:=q
        rw [q'] at he
        have T3:(0:Int)=d.Ino:=he
        omega
       ·exact fL q.2.2.1 hz
   | false =>
    simp only [zF]
    cases MU:d.Kind==4 with
    | false=>rfl
    | true =>
     simp only [zE]
     rw [yF hn _ hs.1]
     cases h0:decide (0<d.Block) with
     | false=>rfl
     | true =>
      rw [iU (of_decide_eq_true h0)]
      cases (aH m.aa d.Block).bZ<;>rfl
 rw [hq]
 cases List.all d.ab _<;>cases bF m d<;>rfl
theorem Sg (m:Mem) (i:Nat) (hi:i<m.ae.length):nr m i=(A0 m (m.ae.getD i aT)&&(bE (fun d=>d.Id==(m.ae.getD i aT).Id) m.ae==(i:Int))):=by
 rw [AP (fun d:bO=>d.Id) aT _ m.ae i hi (beq_self_eq_true _)]
 simp only [nr,A0]
 cases bF m (m.ae.getD i aT)<;>cases List.all (m.ae.getD i aT).ab _<;>cases List.all (List.range' 0 i) _<;>cases cC m (m.ae.getD i aT)<;>rfl
theorem An {n:Nat} (hn:bq<=n) (m:Mem) (hm:eU m) (k:Bool->Option R):wH n m k=k (fe m):=by
 have Ck:m.ae.length<=2097152:=hm.dp
 simp only [wH,fH,fe]
 rw [Gm hn _ hm.d,show (21:Int)=((21:Nat):Int) from rfl,cG,show decide ((40:Int)<(m.ae.length:Int))= !decide (m.ae.length<=40) by by_cases h:m.ae.length<=40<;>simp [h]<;>omega]
 cases h1:ll m.aa; · rfl
 cases h2:m.an.length==21; · rfl
 cases h3:decide (m.ae.length<=40); · rfl
 cases h4:within m.Next 1 100000; · rfl
 simp only [zM,zN,zE,zF,Bool.or_false,Bool.true_and]
 rw [ak] at h4
 have hd:=kD.1 h1
 have:=j9 (R:=R) (L:=lJ n (m.ae.length:Int) m.Next m.ae m.aa.au.ab m.aa.au.bB m.aa.ad m.aa.ab m.an m.ae (fun x=>k x) (k true)) (len:=m.ae.length) (B:=0) (p:=nr m) (e:=k false) (q:=k true) (by omega)
  (fun m' j _ hj=>by
   simp only [lJ,bk,aG,hj,zV,zE,bf,zC]
   refine (Jf hn m hm.d hd h4 _ (hm.dep _ (aV aT hj)) _).trans ?_
   refine (CP hn m hm.dp _ _).trans ?_
   rw [Sg m j hj]
   cases A0 m (m.ae.getD j aT) with
   | false=>rfl
   | true =>
    simp only [zM,zN,zE,Bool.false_or,Bool.true_and]
    cases bE (fun d=>d.Id==(m.ae.getD j aT).Id) m.ae==(j:Int)<;>rfl) (fun m'=>by simp [lJ]) m.ae.length n 0 (by omega) (aO hn (by omega))
 refine this.trans ?_
 cases List.all _ (nr m)<;>rfl
def iz {α:Type} (f:α->α->Bool):List α->List α->Bool
 | [],[]=>true
 | a::x,b::y=>f a b&&iz f x y
 | _,_=>false
theorem DV {α:Type} {f:α->α->Bool}:∀ {x y:List α},iz f x y=true->x.length=y.length
 | [],[],_=>rfl
 | a::x,b::y,h=>by
  simp only [iz,zB] at h
  simp [DV h.2]
 | [],b::y,h=>by simp [iz] at h
 | a::x,[],h=>by simp [iz] at h
theorem sQ {α:Type} {f:α->α->Bool} {x y:List α} (h:x.length≠y.length):iz f x y=false:=by
 cases hs:iz f x y with
 | false=>rfl
 | true=>exact absurd (DV hs) h
theorem lW {α:Type} {f:α->α->Bool} (hf:∀ a,f a a=true):∀ x:List α,iz f x x=true
 | []=>rfl
 | a::x=>by simp only [iz,hf,lW hf x,Bool.and_self]
theorem yE {α:Type} (f:α->α->Bool) (d:α) (X Y:List α):∀ (x y:List α) (i:Nat),x=X.drop i->y=Y.drop i->x.length=y.length->(List.range' i x.length).all (fun j=>f (X.getD j d) (Y.getD j d))=iz f x y
 | [],[],i,_,_,_=>rfl
 | a::x,b::y,i,h1,h2,h3=>by
  have hx:i<X.length:=by have:=congrArg List.length h1; simp at this; omega
  have hy:i<Y.length:=by have:=congrArg List.length h2; simp at this; omega
  have d1:=cQ d hx
  have d2:=cQ d hy
  rw [← h1] at d1
  rw [← h2] at d2
  injection d1 with ha zm
  injection d2 with hb MH
  rw [zR,List.range'_succ,List.all_cons,← ha,← hb,yE f d X Y x y (i+1) zm MH (by simpa using h3)]
  rfl
theorem pW {α:Type} {L:Nat->Int->Option R} (f:α->α->Bool) (d:α) (x y:List α) {e q:Option R} (hl:x.length<=cO) (MQ:x.length=y.length) {B:Nat}
  (hs:∀ m i,B<m->i<x.length->i<y.length->L (m+1) (i:Int)=bif f (x.getD i d) (y.getD i d) then L m (aC ((i:Int)+1)) else e) (hq:∀ m,L (m+1) (x.length:Int)=q)
  {n:Nat} (hn:x.length+B<n):L n 0=bif iz f x y then q else e:=by
 have yw:x.length<=2097152:=hl
 have:=j9 (R:=R) (p:=fun i=>f (x.getD i d) (y.getD i d)) (by omega) (fun m i h1 h2=>hs m i h1 h2 (by omega)) hq x.length n 0 (by omega) hn
 rw [yE f d x y x y 0 rfl rfl MQ] at this
 exact this
def ph (a b:aR):Bool:=(a.Kind==b.Kind&&a.Links==b.Links)&&iz (fun p q=>p==q) a.ax b.ax
def sf (a b:Slot):Bool:=a.Name==b.Name&&a.Ino==b.Ino
def pb (a b:Block):Bool:=(a.bZ==b.bZ&&a.Text==b.Text)&&iz sf a.ah b.ah
def ta (a b:aa):Bool:=((iz (fun p q=>p==q) a.au.ab b.au.ab&&iz (fun p q=>p==q) a.au.bB b.au.bB)&&iz ph a.ad b.ad)&&iz pb a.ab b.ab
theorem CQ (a:Slot):sf a a=true:=by simp [sf]
theorem Fk (a:aR):ph a a=true:=by simp [ph,lW]
theorem EZ (a:Block):pb a a=true:=by simp [pb,lW CQ]
theorem CN (a:aa):ta a a=true:=by simp [ta,lW Fk,lW EZ,lW (f:=fun p q:Bool=>p==q) (fun a=>by simp)]
theorem rz {n:Nat} (hn:bq<=n) (a b:List Bool) (ha:a.length<=cO) (k:Bool->Option R):jc n a b k=k (iz (fun p q=>p==q) a b):=by
 have FI:a.length<=2097152:=ha
 simp only [jc,cG]
 by_cases h:a.length=b.length
 ·rw [beq_iff_eq.2 h,zM,br]
  refine (pW (R:=R) (L:=fun m i=>e9 a b (fun x=>k x) (k true) m i) (fun p q:Bool=>p==q) false a b (e:=k false) (q:=k true) ha h (B:=0)
   (fun m i _ h1 h2=>by
    simp only [e9,bk,aG,h1,h2,zV,zE,bf,zC]
    cases (a.getD i false==b.getD i false)<;>rfl) (fun m=>by simp [e9]) (aO hn (by omega))).trans ?_
  cases iz _ a b<;>rfl
 ·rw [beq_eq_false_iff_ne.2 h,sQ h]; rfl
theorem Ja {n:Nat} (hn:bq<=n) (a b:aR) (ha:a.ax.length<=cO) (k:Bool->Option R):um n a b k=k (ph a b):=by
 have FI:a.ax.length<=2097152:=ha
 simp only [um,cG,ph]
 cases h1:a.Kind==b.Kind with
 | false=>rfl
 | true =>
  cases h2:a.Links==b.Links with
  | false=>rfl
  | true =>
   by_cases h:a.ax.length=b.ax.length
   ·rw [beq_iff_eq.2 h]
    simp only [zM,Bool.or_self,zF,Bool.and_self,Bool.true_and]
    refine (pW (R:=R) (L:=fun m i=>jK a.ax b.ax (fun x=>k x) (k true) m i) (fun p q:Int=>p==q) 0 a.ax b.ax (e:=k false) (q:=k true) ha h (B:=0)
     (fun m i _ h1 h2=>by
      simp only [jK,bk,aG,h1,h2,zV,zE,bf,zC]
      cases (a.ax.getD i 0==b.ax.getD i 0)<;>rfl) (fun m=>by simp [jK]) (aO hn (by omega))).trans ?_
    cases iz _ a.ax b.ax<;>rfl
   ·rw [beq_eq_false_iff_ne.2 h,sQ h]; rfl
theorem Iq {n:Nat} (hn:bq<=n) (a b:Block) (ha:a.ah.length<=cO) (k:Bool->Option R):uh n a b k=k (pb a b):=by
 have FI:a.ah.length<=2097152:=ha
 simp only [uh,cG,pb]
 cases h1:a.bZ==b.bZ with
 | false=>rfl
 | true =>
  cases h2:a.Text==b.Text with
  | false=>rfl
  | true =>
   by_cases h:a.ah.length=b.ah.length
   ·rw [beq_iff_eq.2 h]
    simp only [zM,Bool.or_self,zF,Bool.and_self,Bool.true_and]
    refine (pW (R:=R) (L:=fun m i=>jJ a.ah b.ah (fun x=>k x) (k true) m i) sf aq a.ah b.ah (e:=k false) (q:=k true) ha h (B:=0)
     (fun m i _ h1 h2=>by
      simp only [jJ,bk,aG,h1,h2,zV,zE,bf,zC,sf]
      cases ((a.ah.getD i aq).Name==(b.ah.getD i aq).Name&&(a.ah.getD i aq).Ino==(b.ah.getD i aq).Ino)<;>rfl) (fun m=>by simp [jJ]) (aO hn (by omega))).trans ?_
    cases iz _ a.ah b.ah<;>rfl
   ·rw [beq_eq_false_iff_ne.2 h,sQ h]; rfl
theorem FR {n:Nat} (hn:bq<=n) (a b:aa) (ha:iw a) (k:Bool->Option R):qL n a b k=k (ta a b):=by
 have hi:a.ad.length<=2097152:=ha.di
 have hb:a.ab.length<=2097152:=ha.db
 simp only [qL,cG,ta]
 rw [rz hn _ _ ha.bb,rz hn _ _ ha.bi]
 cases iz _ a.au.ab b.au.ab with
 | false=>rfl
 | true =>
  cases iz _ a.au.bB b.au.bB with
  | false=>rfl
  | true =>
   by_cases h1:a.ad.length=b.ad.length
   ·by_cases h2:a.ab.length=b.ab.length
    ·rw [beq_iff_eq.2 h1,beq_iff_eq.2 h2]
     simp only [zM,zN,Bool.or_self,zF,zE,Bool.and_self,Bool.true_and]
     refine (pW (R:=R) (L:=fun m i=>iK n a.ad b.ad (fun x=>k x) (fC n a.ab b.ab (fun fI=>k fI) (k true) n 0) m i) ph ay a.ad b.ad (e:=k false) (q:=fC n a.ab b.ab (fun fI=>k fI) (k true) n 0) ha.di h1 (B:=0)
      (fun m i _ h1 h2=>by
       simp only [iK,bk,aG,h1,h2,zV,zE,bf,zC]
       rw [Ja hn _ _ (ha.ino _ (aV _ h1))]
       cases ph _ _<;>rfl) (fun m=>by simp [iK]) (aO hn (by omega))).trans ?_
     cases iz ph a.ad b.ad with
     | false=>rfl
     | true =>
      rw [bK]
      refine (pW (R:=R) (L:=fun m i=>fC n a.ab b.ab (fun fI=>k fI) (k true) m i) pb aA a.ab b.ab (e:=k false) (q:=k true) ha.db h2 (B:=0)
       (fun m i _ h1 h2=>by
        simp only [fC,bk,aG,h1,h2,zV,zE,bf,zC]
        rw [Iq hn _ _ (ha.oO _ (aV _ h1)).1]
        cases pb _ _<;>rfl) (fun m=>by simp [fC]) (aO hn (by omega))).trans ?_
      cases iz pb a.ab b.ab<;>rfl
    ·rw [beq_eq_false_iff_ne.2 h2,sQ h2]
     simp only [zM,zN,Bool.or_true,zE,Bool.and_false]
   ·rw [beq_eq_false_iff_ne.2 h1,sQ h1]
    simp only [zM,zN,Bool.or_true,Bool.true_or,zE,Bool.and_false,Bool.false_and]
theorem U0 (code:List UInt8) (f k:Bool->Option R) (h:code.length<=cO->f true=k true):(Ke code fun r=>bif r then k true else f true)=k true:=by
 simp only [Ke]
 by_cases hb:(1048576:Int)<(code.length:Int)
 ·rw [decide_eq_true hb,bK]
 ·rw [decide_eq_false hb,br]
  exact h (by show code.length<=2097152; omega)
theorem Ff {d:aa} (hd:ko d):fe (lV d)=true :=
 lL.2 ⟨hd,rfl,Nat.zero_le _,Int.le_refl _,by show (1:Int)<=100000; omega,fun x hx=>(List.not_mem_nil hx).elim,fun x hx=>(List.not_mem_nil hx).elim,fun x hx=>(List.not_mem_nil hx).elim,List.Pairwise.nil⟩
theorem Ii {n:Nat} (hn:bq<=n) (code:List UInt8) (k:Bool->Option R):v8 n code k=k true:=by
 simp only [v8]
 refine U0 code (fun _=>_) k fun hc=> ?_
 obtain ⟨d,hd,e1⟩:=NC (R:=R) hn code hc
 obtain ⟨c,h0,e0⟩:=Gj (R:=R) hn code hc
 obtain ⟨m,c1,hm,cf,e2⟩:=FY (R:=R) hn c h0
 have hN:fe (lV d)=true:=Ff hd
 have hs:eU (lV d):=⟨hd.t.sz,by show (List.replicate 21 false).length<=cO; decide,by show ([]:List bO).length<=cO; decide,fun x hx=>(List.not_mem_nil hx).elim⟩
 rw [e1,GY hn d hd.t.sz]
 simp only [sZ]
 rw [e0,e2,An hn _ hs,hN,FR hn _ _ hs.d]
 rw [show ta (lV d).aa d=true from CN d]
 rw [show (lV d).ae.length=0 from rfl,show (lV d).Next=1 from rfl,show (lV d).an=List.replicate 21 false from rfl]
 rw [An hn _ hm.sz,mS hn _ hm.sz]
 have:aJ (R:=R)=aJ:=rfl
 generalize fe m=b
 cases b<;>rfl
end Go.Soft
namespace Go.Soft
open Go Go.ChangeShapes Go.WideShapes
theorem Mv {P:Program} {fits:TypeId->Bool}:∀ {d:Nat} {e:TypeId} {count off n:Nat},rowAt P fits d e count off n=true->off<=count*P.cellsOf e
 | 0,_,_,_,_,h=>by simp [rowAt] at h
 | d+1,e,count,off,n,h=>by
  simp only [rowAt] at h
  by_cases hs:P.cellsOf e=0
  ·simp [hs] at h
  ·rw [if_neg hs] at h
   have hdm:=Nat.div_add_mod off (P.cellsOf e)
   have Nf:=Nat.mod_lt off (Nat.pos_of_ne_zero hs)
   simp only [Bool.or_eq_true,zB,beq_iff_eq,zD] at h
   rcases h with ⟨⟨h1,h2⟩,_⟩ | ⟨h1,_⟩
   ·have:off/P.cellsOf e<=count:=by omega
    have:=zP (P.cellsOf e) this
    rw [Nat.mul_comm] at hdm; omega
   ·have:=zP (P.cellsOf e) (show off/P.cellsOf e+1<=count from h1)
    rw [Nat.add_mul] at this
    rw [Nat.mul_comm] at hdm; omega
theorem BH {P:Program}:∀ {d:Nat} {e:TypeId} {count off:Nat} {u:TypeId} {n:Nat},liesAt P d e count off u n=true->off<=count*P.cellsOf e
 | 0,_,_,_,_,_,h=>by simp [liesAt] at h
 | d+1,e,count,off,u,n,h=>by
  simp only [liesAt,Bool.or_eq_true] at h
  rcases h with h | h
  ·exact Mv h
  ·revert h; split
   ·exact BH
   ·intro h; cases h
theorem LQ {P:Program} {W:Go.World} {r:Reach} {base:Nat} {a:Addr} {e:TypeId} {n:Nat} (h:W.has P r base a e n):a.spot=none/\∃ cur el fz,W.heap[a.block]? =some (.cells cur el fz)/\a.off<=cur.size:=by
 obtain ⟨_,hs,row,cells,FH,hl⟩:=h
 refine ⟨hs,?_⟩
 simp only [Go.World.shape?] at FH
 cases hb:W.heap[a.block]? with
 | none=>rw [hb] at FH; cases FH
 | some o =>
  rw [hb] at FH
  cases o with
  | cells c el fz =>
   simp only [zA,zG] at FH
   obtain ⟨rfl,rfl⟩:=FH
   refine ⟨c,el,fz,rfl,?_⟩
   have:=BH hl
   have h2:=Nat.div_mul_le_self c.size (P.cellsOf el)
   omega
  | _=>cases FH
theorem Ui {W:Go.World} {a:Addr} {l:List Value} (h:W.cells? 0 a 1=some l):∃ x0,l=[x0]/\W.cell? (a.add 0)=some x0:=by
 simp only [Go.World.cells?,Nat.zero_le,if_true] at h
 have e4:List.range 1=[0]:=rfl
 rw [e4] at h
 simp only [List.mapM_cons,List.mapM_nil,Option.bind_eq_bind,Option.bind_eq_some_iff,Option.pure_def,zA] at h
 obtain ⟨x0,h0,r0,rfl,rfl⟩:=h
 exact ⟨x0,rfl,h0⟩
section
variable {H:Type} {enc:TypeId×Value->H} {P:Program} {W:Go.World}
theorem Ig {t e:TypeId} (ht:P.underlying t=some (.slice e)) (he:P.underlying e=some (.int .u8)) (hc:P.cellsOf e=1)
  {base:Nat} {v:Value} {d:DataW H} {ps:List MemPlace} (xq:Value.okWide P W .any base t v) (h:DataW.Trod enc P W 0 (fun _=>true) true t v d ps) :
  ∃ (xs:List UInt8) (cs:List Value),vO (fun _=>True) W .byte xs v cs:=by
 classical
 obtain ⟨a0,len,cap,rfl⟩:=okWide_slice ht xq
 obtain ⟨fuel,hf⟩:=h
 rcases DataW.trod_slice ht hf with ⟨iW,_⟩ | ⟨a,len',cap',elems,rest,n,_,iW,_,_,hl,hm,hlen,MR,_,_⟩
 ·simp [Value.cells] at iW
  obtain ⟨rfl,rfl,rfl⟩:=iW
  exact ⟨[],[],⟨⟨rfl,.inl ⟨rfl,rfl⟩⟩,fun e c ct he=>by simp at he⟩⟩
 ·simp [Value.cells] at iW
  obtain ⟨rfl,rfl,rfl⟩:=iW
  have aca:W.has P .any base a e cap:=by
   simp only [Value.okWide,ht,Cell.okWide,Cell.ok] at xq
   exact xq.2.2
  obtain ⟨Tw,cur,el,fz,hb,YA⟩:=LQ aca
  obtain ⟨g,off,spot⟩:=a
  simp only at Tw hb YA; subst Tw
  have node:∀ i,i<len->∃ x:UInt8,cur[off+i]? =some (.int .u8 (x.toNat:Int)):=by
   intro i hi
   have:=MR i hi
   rw [hc,List.getElem?_eq_getElem (by omega),Option.bind_eq_some_iff] at this
   obtain ⟨l,yw,hy⟩:=this
   obtain ⟨x0,rfl,c0⟩:=Ui yw
   obtain ⟨z,hz,_,hw⟩:=DataW.trod_int he hy
   simp only [List.cons.injEq,and_true] at hz
   subst hz
   have hr:0<=z/\z<=255:=by
    simp only [Lit.wf,zB,zD] at hw
    exact ⟨hw.1,hw.2⟩
   refine ⟨UInt8.ofNat z.toNat,?_⟩
   have eD:W.cell? (Addr.add (Addr.add ⟨g,off,none⟩ (i*1)) 0)=cur[off+i]? :=by
    rw [je,je]
    simp only [Go.World.cell?,hb]
    rw [Nat.mul_one]; rfl
   rw [eD] at c0
   rw [c0]
   have:((UInt8.ofNat z.toNat).toNat:Int)=z:=by
    rw [UInt8.toNat_ofNat']; omega
   rw [this]
  let f:Nat->UInt8:=fun i=>if hi:i<len then Classical.choose (node i hi) else 0
  have QD:∀ i,i<len->cur[off+i]? =some (.int .u8 ((f i).toNat:Int)):=by
   intro i hi
   have e:f i=Classical.choose (node i hi):=by show (if hi:i<len then Classical.choose (node i hi) else 0)=_; rw [dif_pos hi]
   rw [e]; exact Classical.choose_spec (node i hi)
  let xs:=(List.range len).map f
  have QP:xs.length=len:=by simp [xs]
  have mn:off+len*1<=cur.size:=by
   by_cases QN:len=0
   ·subst QN; omega
   ·have:=QD (len-1) (by omega)
    have:=(Array.getElem?_eq_some_iff.1 this).1
    omega
  refine ⟨xs,(cur.toList.drop off).take (len*1),⟨⟨?_,.inr ⟨g,off,cap,cur,el,fz,by rw [QP],hb,trivial,by rw [QP]; exact hl,by rw [QP]; exact mn,by rw [QP]; rfl⟩⟩,fun i c ct hi dg=> ?_⟩⟩
  ·rw [List.length_take,List.length_drop,QP]; simp only [sz,Array.length_toList]; omega
  ·rw [QP] at hi
   have SV:xs.getD i (cg .byte)=f i:=by simp [xs,hi]
   rw [SV] at dg
   have d0:=QD i hi
   have mU:((cur.toList.drop off).take (len*1))[i*1]? =cur[off+i]? :=by
    rw [List.getElem?_take,if_pos (by omega),List.getElem?_drop]; simp
   simp only [cells] at dg
   have cf:c<1:=by have:=(zU.1 dg).1; simpa using this
   match c,cf,dg with
   | 0,_,dg =>
    simp at dg; subst dg
    exact ⟨_,mU.trans d0,rfl⟩
end
end Go.Soft
