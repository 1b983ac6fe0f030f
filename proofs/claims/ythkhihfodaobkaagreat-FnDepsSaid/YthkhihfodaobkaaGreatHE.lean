import Derived.Test.YthkhihfodaobkaaGreatHD
import Derived.ProofKit
set_option linter.constructorNameAsVariable false
set_option linter.unusedVariables false
set_option linter.unusedSimpArgs false
namespace Go.Soft
open Go
variable {e:Int} {X:List Int} {m:Mem} {d:aa}
theorem VO {b:UInt8} (h:TN b=true):(b==47)=false:=by
 rw [beq_eq_false_iff_ne]
 rintro rfl
 exact absurd h (by decide)
theorem wP:∀ (x cur rest:List UInt8),(∀ b∈x,(b==47)=false)->oE cur (x++rest)=oE (cur++x) rest
 | [],cur,rest,_=>by simp
 | b::x,cur,rest,h=>by
  rw [List.cons_append]
  simp only [oE,h b zO,zF]
  rw [wP x _ rest fun c hc=>h c (zJ _ hc),List.append_assoc]; rfl
theorem qU {s:ByteArray} (h:bN s=true):∀ b∈s.data.toList,(b==47)=false:=fun b hb=>by
 simp only [bN,zB,List.all_eq_true] at h
 exact VO (h.1 b hb)
def vr (l:List ByteArray):List UInt8:=l.flatMap fun x=>47::x.data.toList
theorem x6:∀ (xs:List ByteArray) (cur:List UInt8),(∀ y∈xs,bN y=true)->oE cur (vr xs)=zm cur::xs
 | [],cur,_=>rfl
 | y::xs,cur,h=>by
  have hy:=h y zO
  show oE cur (47::(y.data.toList++vr xs))=_
  simp only [oE,beq_self_eq_true,zE]
  rw [wP _ _ _ (qU hy),List.nil_append,x6 xs _ fun z hz=>h z (zJ _ hz)]
  rfl
theorem ox (l:List ByteArray):(fb l).data.toList=vr l:=by
 have:∀ (l:List ByteArray) (a:ByteArray),(l.foldl (fun s x=>(s++S [47])++x) a).data.toList=a.data.toList++vr l:=by
  intro l
  induction l with
  | nil=>intro a; simp [vr]
  | cons x l ih =>
   intro a
   rw [List.foldl_cons,ih]
   simp only [ByteArray.data_append,Array.toList_append,vr,List.flatMap_cons,List.append_assoc]
   rfl
 exact this l eS
theorem BB {l:List ByteArray} (h0:l≠[]) (h:∀ y∈l,bN y=true) (h4:l.length<=4):aP (fb l)=(l,true):=by
 match l,h0 with
 | x::xs,_ =>
  have hx:=h x zO
  have hb:(fb (x::xs)).data.toList=47::(x.data.toList++vr xs):=ox _
  have cT:∃ c t,x.data.toList=c::t:=by
   have:=(eY hx).1
   cases hd:x.data.toList with
   | nil=>rw [size_eq,hd] at this; simp at this
   | cons c t=>exact ⟨c,t,rfl⟩
  obtain ⟨c,t,dk⟩:=cT
  have hs:oE [] (x.data.toList++vr xs)=x::xs:=by
   rw [wP _ _ _ (qU hx),List.nil_append,x6 xs _ fun z hz=>h z (zJ _ hz)]
   rfl
  simp only [aP,hb,beq_self_eq_true,zE]
  rw [dk,List.cons_append] at hs ⊢
  simp only [hs]
  have ha:((x::xs).all bN&&decide ((x::xs).length<=4))=true:=by
   rw [zB,List.all_eq_true,zD]; exact ⟨h,h4⟩
  rw [ha]; rfl
theorem Cy:aP (S [47])=([],true):=rfl
theorem gX {p:ByteArray} (h:(ao p).2.2=true):∃ l x,aP p=(l++[x],true)/\aP (ao p).1=(l,true)/\(ao p).2.1=x/\bN x=true/\(∀ y∈l,bN y=true)/\l.length<=3:=by
 simp only [ao] at h ⊢
 cases h2:(aP p).2 with
 | false=>rw [h2] at h; cases h
 | true =>
  obtain ⟨F9,hlen⟩:=nu h2
  rw [h2] at h
  generalize hl:(aP p).1=l at *
  cases hz:l.length==0 with
  | true=>rw [hz] at h; cases h
  | false =>
   have h0:l≠[]:=by rintro rfl; cases hz
   have Qb:l=l.dropLast++[l.getLast h0]:=(List.dropLast_concat_getLast h0).symm
   rw [List.all_eq_true] at F9
   have hd:∀ y∈l.dropLast,bN y=true:=fun y hy=>F9 y (List.dropLast_subset _ hy)
   have CP:l.dropLast.length<=3:=by simp; omega
   refine ⟨l.dropLast,l.getLast h0,?_,?_,?_,F9 _ (List.getLast_mem h0),hd,CP⟩
   ·rw [← Qb,← hl,← h2]
   ·simp only [zM,Bool.false_or,zF]
    by_cases hn:l.dropLast=[]
    ·have:(fb l.dropLast==eS)=true:=by rw [hn]; rfl
     rw [this,zE,hn]; exact Cy
    ·have:(fb l.dropLast==eS)=false:=by
      rw [beq_eq_false_iff_ne]; intro q
      have h3:=ox l.dropLast
      rw [q] at h3
      cases J1:l.dropLast with
      | nil=>exact hn J1
      | cons a b=>rw [J1] at h3; cases h3
     rw [this,zF]; exact BB hn hd (by omega)
   ·simp only [zM,Bool.false_or,zF]
    have hp:0<l.length:=List.length_pos_iff.2 h0
    rw [fq _ _ (by omega:l.length-1<l.length),List.getLast_eq_getElem]
structure Fl (d:aa) (w:Int) (nm:ByteArray) (f:Int×Int×Int):Prop where
 w8:I8 w
 kw:aW d w=2
 ptr:∃ k,aY d w k=f.1
 b:lQ f.1
 s:0<=f.2.1/\f.2.1<=3
 sl:cF d f.1 f.2.1.toNat=⟨nm,f.2.2⟩
 i8:I8 f.2.2
theorem Fl.own {w:Int} {nm:ByteArray} {f:Int×Int×Int} (h:Fl d w nm f):nq d f.1:=by
 obtain ⟨k,hk⟩:=h.ptr
 exact ⟨w,k,h.w8,h.kw,hk⟩
theorem tI {b:Block} {nm:ByteArray} (hn:nm≠eS):(dI b nm= -1/\∀ s,(b.ah.getD s aq).Name≠nm)\/∃ j:Nat,dI b nm=j/\j<b.ah.length/\(b.ah.getD j aq).Name=nm:=by
 have hz:(nm==eS)=false:=beq_eq_false_iff_ne.2 hn
 simp only [dI,hz,zF]
 rcases gg (fun s:Slot=>s.Name==nm) b.ah with h | ⟨j,h,hj⟩
 ·refine .inl ⟨h,fun s=> ?_⟩
  have key:∀ l:List Slot,bB (fun s:Slot=>s.Name==nm) l= -1->∀ x∈l,x.Name≠nm:=by
   intro l
   induction l with
   | nil=>intro _ x hx; cases hx
   | cons y l ih =>
    intro hp x hx
    simp only [bB] at hp
    cases hy:y.Name==nm with
    | true=>rw [hy] at hp; have yX:(0:Int)= -1:=hp; omega
    | false =>
     rw [hy] at hp
     simp only [zF] at hp
     rcases zI.1 hx with rfl | hx
     ·simpa using hy
     ·refine ih ?_ x hx
      rcases gg (fun s:Slot=>s.Name==nm) l with q | ⟨j,q,_⟩
      ·exact q
      ·rw [q] at hp; have yX:((j+1:Nat):Int)= -1:=hp; omega
  by_cases hs:s<b.ah.length
  ·exact key _ h _ (aU aq hs)
  ·rw [zT,List.getElem?_eq_none (Nat.le_of_not_lt hs)]
   exact fun q=>hn q.symm
 ·refine .inr ⟨j,h,hj,?_⟩
  have:=yu (fun s:Slot=>s.Name==nm) aq _ j h
  simpa using this
theorem xp (T:cJ d) {w:Int} {nm:ByteArray} (hn:bN nm=true):(find d w nm=(0,0,0)/\(I8 w->aW d w=2->(∀ k,aY d w k≠0->(aN d (aY d w k)).cf=true)->∀ k t,aY d w k≠0->(cF d (aY d w k) t).Name≠nm))\/Fl d w nm (find d w nm):=by
 simp only [find,T.di]
 cases hc:within w 1 (8:Nat)&&(ai d w).Kind==2 with
 | false =>
  refine .inl ⟨rfl,fun h8 hk=> ?_⟩
  rw [show within w 1 ((8:Nat):Int)=true from ak.2 ⟨h8.1,h8.2⟩,show (ai d w).Kind=2 from hk] at hc; cases hc
 | true =>
  simp only [zB,ak,beq_iff_eq] at hc
  simp only [zE]
  have key:∀ (l:List Int),(∀ p∈l,p=0\/lQ p)->(gx d nm l=(0,0,0)/\∀ p∈l,p≠0->(aN d p).cf=true->∀ t,(cF d p t).Name≠nm) \/
    (gx d nm l).1∈l/\lQ (gx d nm l).1/\(0<=(gx d nm l).2.1/\(gx d nm l).2.1<=3)/\cF d (gx d nm l).1 (gx d nm l).2.1.toNat=⟨nm,(gx d nm l).2.2⟩/\I8 (gx d nm l).2.2:=by
   intro l
   induction l with
   | nil=>intro _; exact .inl ⟨rfl,fun p hp=>by cases hp⟩
   | cons p l ih =>
    intro hl
    have ih:=ih fun q hq=>hl q (zJ _ hq)
    simp only [gx]
    cases hf:((cV d p).2&&(cV d p).1.cf)&&decide (0<=dI (cV d p).1 nm) with
    | true =>
     simp only [zB,zD] at hf
     simp only [zE]
     have hw:within p 1 d.ab.length=true:=by
      cases hw:within p 1 d.ab.length with
      | true=>rfl
      | false=>simp only [cV,hw,zF] at hf; exact absurd hf.1.1 (by decide)
     have hb:cV d p=(aN d p,true):=by simp only [cV,hw,zE]
     rw [hb] at hf ⊢
     rw [ak,T.db] at hw
     have hB:lQ p:=⟨hw.1,hw.2⟩
     rcases tI (b:=aN d p) (fT hn) with ⟨q,_⟩ | ⟨j,q,hj,F9⟩
     ·exact absurd hf.2 (by show ¬ 0<=dI (aN d p) nm; rw [q]; decide)
     ·have h4:=dm (T.nM hB.1 hB.2) hf.1.2
      refine .inr ⟨zO,hB,?_,?_,?_⟩
      ·show 0<=dI (aN d p) nm/\dI (aN d p) nm<=3; rw [q]; omega
      ·show cF d p (dI (aN d p) nm).toNat=⟨nm,((aN d p).ah.getD (dI (aN d p) nm).toNat aq).Ino⟩
       rw [q,zC,← F9]; rfl
      ·show I8 ((aN d p).ah.getD (dI (aN d p) nm).toNat aq).Ino
       rw [q,zC]
       rcases T.wH hB j with z | z
       ·have z':(aN d p).ah.getD j aq=aq:=z
        rw [z'] at F9; exact absurd F9.symm (fT hn)
       ·exact z.2.2.2
    | false =>
     simp only [zF]
     rcases ih with ⟨h1,h2⟩ | ⟨h1,h2⟩
     ·refine .inl ⟨h1,fun q hq Xk hqd t=> ?_⟩
      rcases zI.1 hq with rfl | hq
      ·have hB:=(hl q zO).resolve_left Xk
       have hw:within q 1 d.ab.length=true:=by rw [ak,T.db]; exact ⟨hB.1,hB.2⟩
       have hb:cV d q=(aN d q,true):=by simp only [cV,hw,zE]
       rw [hb] at hf
       simp only [hqd,Bool.true_and,decide_eq_false_iff_not] at hf
       rcases tI (b:=aN d q) (fT hn) with ⟨_,z⟩ | ⟨j,z,_⟩
       ·exact z t
       ·rw [z] at hf; omega
      ·exact h2 q hq Xk hqd t
     ·exact .inr ⟨zJ _ h1,h2⟩
  have Ib:I8 w:=⟨hc.1.1,hc.1.2⟩
  have hP:∀ p∈(ai d w).ay,p=0\/lQ p:=fun p hp=>by
   by_cases h0:p=0
   ·exact .inl h0
   ·obtain ⟨k,hk⟩:=(m9 h0).1 hp
    have uZ:aY d w k=p:=hk
    exact .inr (uZ▸T.gY Ib (by rw [uZ]; exact h0))
  rcases key _ hP with ⟨h1,h2⟩ | ⟨h1,h2,h3,h4,h5⟩
  ·refine .inl ⟨h1,fun _ _ hd k t h0=> ?_⟩
   exact h2 (aY d w k) ((m9 h0).2 ⟨k,rfl⟩) h0 (hd k h0) t
  ·refine .inr ⟨Ib,hc.2,?_,h2,h3,h4,h5⟩
   exact (m9 (by obtain ⟨a,b⟩:=h2; omega)).1 h1
theorem vx (x:ByteArray):∀ (l:List ByteArray) (i:Int),cD d i (l++[x])=bif within (find d (cD d i l) x).2.2 1 d.ad.length then (find d (cD d i l) x).2.2 else 0
 | [],i=>rfl
 | y::l,i=>by
  rw [List.cons_append]
  simp only [cD]
  cases within (find d i y).2.2 1 d.ad.length with
  | true=>exact vx x l _
  | false =>
   simp only [zF]
   have:find d 0 x=(0,0,0):=by simp only [find]; rw [show within 0 1 d.ad.length=false by simp [within]]; rfl
   rw [this,show within (0,0,0).2.2 1 d.ad.length=false by simp [within]]; rfl
theorem DC (T:cJ d) (g:DG d):∀ (l:List ByteArray) (i:Int),(∀ y∈l,bN y=true)->I8 i->(i=1\/lj d i≠0)->aW d i≠0->cD d i l=0\/(I8 (cD d i l)/\(cD d i l=1\/lj d (cD d i l)≠0)/\aW d (cD d i l)≠0/\∀ r,RK d r->aW d (cD d i l)=2->r (cD d i l)=r i+l.length/\aW d i=2)
 | [],i,_,hi,hc,hk=> .inr ⟨hi,hc,hk,fun r _ h2=>⟨rfl,h2⟩⟩
 | x::l,i,hl,hi,hc,hk=>by
  simp only [cD,T.di]
  rcases xp T (w:=i) (hl x zO) with ⟨h1,_⟩ | F
  ·rw [h1,show within (0,0,0).2.2 1 (8:Nat)=false by simp [within]]; exact .inl rfl
  ·have h8:=F.i8
   have hS:=F.sl
   have hB:=F.b
   have hO:=F.own
   obtain ⟨kk,jf⟩:=F.ptr
   generalize find d i x=f at *
   rw [show within f.2.2 1 ((8:Nat):Int)=true from ak.2 ⟨h8.1,h8.2⟩,zE]
   have Rw:f.2.2≠0:=by obtain ⟨a,b⟩:=h8; omega
   have hI:(cF d f.1 f.2.1.toNat).Ino=f.2.2:=by rw [hS]
   have F9:=g.nm f.1 f.2.1.toNat hB hO (by rw [hI]; exact Rw)
   rw [hI] at F9
   have hcn:lj d f.2.2≠0:=fun z=>(T.HU Rw).1 z f.1 f.2.1.toNat hB hO hI
   rcases DC T g l f.2.2 (fun y hy=>hl y (zJ _ hy)) h8 (.inr hcn) F9.1 with q | ⟨q1,q2,q3,q4⟩
   ·exact .inl q
   ·refine .inr ⟨q1,q2,q3,fun r hr h2=> ?_⟩
    obtain ⟨q5,q6⟩:=q4 r hr h2
    have Xi:f.1≠0:=by obtain ⟨a,b⟩:=hB; omega
    have:=hr.2 i kk f.2.1.toNat hi F.kw (by rw [jf]; exact Xi)
    rw [jf,hI] at this
    have:=(this Rw q6).1
    exact ⟨by rw [q5,this,zR]; omega,F.kw⟩
def lO (l:List bG):Nat:=l.countP fun d=>d.Kind==4
structure ko (m:Mem):Prop where
 g:Gd 0 [] m
 len:m.ae.length<=36
 TS:m.Next+lO m.ae<=99100
theorem SZ (l:List bG):lO l<=l.length:=List.countP_le_length
theorem ko.of (g:Gd 0 [] m) (h1:m.ae.length<=36) (h2:m.Next<=99064):ko m:=⟨g,h1,by have:=SZ m.ae; omega⟩
theorem sZ:room m=true↔m.ae.length<=32/\m.Next<=99000:=by
 simp only [room,zB,zD]; omega
theorem A4 (m:Mem) (x:bG):(b8 m x).1.ae.length<=m.ae.length+1/\(b8 m x).1.Next<=m.Next+1:=by
 simp only [b8]
 cases dW m with
 | false=>exact ⟨by simp,by simp only [zF]; omega⟩
 | true=>simp
theorem Hq (i:Int) (m:Mem):(iI i m).ae.length<=m.ae.length+1/\(iI i m).Next<=m.Next+1:=by
 simp only [iI]
 cases decide (40<=(m.ae.length:Int))|| !within m.Next 1 99999 with
 | true=>exact ⟨by simp,by simp only [zE]; omega⟩
 | false =>
  simp only [zF]
  cases decide (0<(gG (ai m.aa i)).Links)||((gG (ai m.aa i)).Kind==0) with
  | true=>exact ⟨by simp,by simp only [zE]; omega⟩
  | false =>
   simp only [zF]
   have:=A4 ⟨aQ m.aa i (ba 0),bS (aO i) m.an,m.ae.filter (stays i),m.Next⟩ ⟨0,5,i,0,0,0,eS,false,false,0,(ai m.aa i).ay.filter fun p=>decide (0<p)⟩
   exact ⟨Nat.le_trans this.1 (Nat.succ_le_succ (List.length_filter_le _ _)),this.2⟩
theorem DJ (id b:Int) (m:Mem):(shown id b m).ae.length<=m.ae.length:=by
 simp only [shown,List.length_map]; exact List.length_filter_le _ _
theorem xO (m:Mem) (p s b:Int):(eN m p s b).ae.length<=m.ae.length+1/\(eN m p s b).Next<=m.Next+1:=by
 simp only [eN]
 cases (iw m (ga m p s)==2)||(iw m (ga m p s)==3) with
 | true =>
  simp only [zE]
  have:=Hq (pZ m p s).Ino (shown (ga m p s) b (nJ m p s))
  have h2:=DJ (ga m p s) b (nJ m p s)
  exact ⟨Nat.le_trans this.1 (Nat.succ_le_succ h2),this.2⟩
 | false=>exact A4 _ _
theorem Gd.X1 (h:Gd e [] m) (hr:(aT m).2≠0):Gd e [] (aT m).1/\I8 (aT m).2/\Dj m.aa (aT m).2=false/\Dj (aT m).1.aa (aT m).2=true /\
  (aT m).1.ae=m.ae/\(aT m).1.Next=m.Next/\(aT m).1.aa.ad=m.aa.ad/\(aT m).1.aa.ab=m.aa.ab:=by
 have T:=h.T'
 revert hr
 simp only [aT]
 cases hz:firstFree m.aa.au.bF==0 with
 | true=>intro hr; exact absurd rfl hr
 | false =>
  intro _
  simp only [zF,qQ]
  rcases o9 m.aa.au.bF with ⟨h1,_⟩ | ⟨j,h1,h2,h3,_⟩
  ·rw [h1] at hz; cases hz
  ·have hb:=T.bi
   rw [hb] at h2
   have hj:((firstFree m.aa.au.bF)-1).toNat=j:=by omega
   have hB:I8 (firstFree m.aa.au.bF):=⟨by omega,by omega⟩
   have hg:=h.bits (bb:=m.aa.au.ab) (bi:=m.aa.au.bF.set (firstFree m.aa.au.bF-1).toNat true) T.bb (List.length_set.trans hb) (fun _ _ hh=>hh) (fun p hp hh=>by
    rw [cK]; split
    ·rfl
    ·exact hh)
   refine ⟨hg.bK ((cR _ _).trans h.R.dy),hB,by simp only [Dj,hj]; exact h3,?_,trivial,trivial,trivial,trivial⟩
   simp only [Dj,cK]
   rw [if_pos ⟨trivial,by omega⟩]
theorem Pw (T:cJ d) {i k:Int} (hi:I8 i) (hk:k=1\/k=2) (h0:aW d i=0):(∀ j,I8 j->aW (aQ d i (ba k)) j=if j=i then k else aW d j)/\(∀ j kk,I8 j->aY (aQ d i (ba k)) j kk=aY d j kk) /\
  (∀ j,lj (aQ d i (ba k)) j=lj d j)/\(∀ kk,aY d i kk=0)/\∀ p,p≠0->(nq (aQ d i (ba k)) p↔nq d p):=by
 have hN:ba k=⟨k,1,[0,0]⟩:=by rcases hk with rfl | rfl<;>rfl
 have hz:∀ kk,([0,0]:List Int).getD kk 0=0:=fun kk=>by
  match kk with
  | 0=>rfl
  | 1=>rfl
  | n+2=>rfl
 have hold:∀ kk,aY d i kk=0:=fun kk=>by
  have h1:=T.sU hi.1 hi.2
  simp only [bp,zB,List.all_eq_true] at h1
  by_cases fW:kk<(ai d i).ay.length
  ·have:=(h1.2.2.2.1 _ (aU 0 fW)).2
   have h2:(ai d i).Kind=0:=h0
   rw [h2] at this
   have h3:((ai d i).ay.getD kk 0==0)=true:=this
   exact beq_iff_eq.1 h3
  ·simp [aY,zT,List.getElem?_eq_none (Nat.le_of_not_lt fW)]
 rw [hN]
 have jf:=fun {j} (hj:I8 j)=>dD T.di hi hj ⟨k,1,[0,0]⟩
 have nC:∀ j kk,I8 j->aY (aQ d i ⟨k,1,[0,0]⟩) j kk=aY d j kk:=fun j kk hj=>by
  rw [fc T.di hi hj]; split
  ·next hh=>rw [hh,hold,hz]
  ·rfl
 have hO:∀ p,p≠0->(nq (aQ d i ⟨k,1,[0,0]⟩) p↔nq d p):=fun p hp=>by
  constructor
  ·rintro ⟨j,kk,hj,a,b⟩
   rw [nC _ _ hj] at b; rw [jf hj] at a
   by_cases hh:j=i
   ·subst hh; rw [hold] at b; exact absurd b.symm hp
   ·rw [if_neg hh] at a; exact ⟨j,kk,hj,a,b⟩
  ·rintro ⟨j,kk,hj,a,b⟩
   have hh:j≠i:=fun hh=>by subst hh; rw [hold] at b; exact hp b.symm
   exact ⟨j,kk,hj,by rw [jf hj,if_neg hh]; exact a,by rw [nC _ _ hj]; exact b⟩
 have h8:(aQ d i ⟨k,1,[0,0]⟩).ad.length=8:=List.length_set.trans T.di
 refine ⟨fun j hj=>jf hj,nC,fun j=>oi fun p hp=> ?_,hold,hO⟩
 have lX:p≠0:=by obtain ⟨a,b⟩:=hp; omega
 simp only [kg]
 rw [x5 T.di h8 lX (hO p lX)]; rfl
theorem yi (h:Gd 0 [] m) {p:ByteArray} (hs:(ao p).2.2=true) (h0:aD m.aa p=0) (hw:aD m.aa (ao p).1≠0) (hk:aW m.aa (aD m.aa (ao p).1)=2) :
  I8 (aD m.aa (ao p).1)/\bN (ao p).2.1=true/\(aD m.aa (ao p).1=1\/lj m.aa (aD m.aa (ao p).1)≠0) /\
  (∀ l t,aY m.aa (aD m.aa (ao p).1) l≠0->(cF m.aa (aY m.aa (aD m.aa (ao p).1) l) t).Name≠(ao p).2.1)/\∀ r,RK m.aa r->r (aD m.aa (ao p).1)<4:=by
 have T:=h.T'
 obtain ⟨l,x,e1,e2,e3,hx,hl,hl3⟩:=gX hs
 have ed:aD m.aa (ao p).1=cD m.aa 1 l:=by simp only [aD,e2,zE]
 have ep:aD m.aa p=bif within (find m.aa (cD m.aa 1 l) x).2.2 1 m.aa.ad.length then (find m.aa (cD m.aa 1 l) x).2.2 else 0:=by
  simp only [aD,e1,zE]; exact vx x l 1
 rw [ed] at hw hk ⊢
 rw [e3]
 have Xj:aW m.aa 1≠0:=by rw [h.g.rt]; decide
 obtain ⟨q1,q2,q3,q4⟩:=(DC T h.g l 1 hl ⟨by decide,by decide⟩ (.inl rfl) Xj).resolve_left hw
 refine ⟨q1,hx,q2,?_,fun r hr=> ?_⟩
 ·rcases xp T (w:=cD m.aa 1 l) hx with ⟨f1,f2⟩ | F
  ·exact f2 q1 hk fun k Ru=>(h.g.pk _ k q1 Ru).2 hk
  ·have h8:=F.i8
   rw [ep,T.di,show within (find m.aa (cD m.aa 1 l) x).2.2 1 ((8:Nat):Int)=true from ak.2 ⟨h8.1,h8.2⟩,zE] at h0
   obtain ⟨a,b⟩:=h8; omega
 ·have:=(q4 r hr hk).1
  rw [hr.1] at this; omega
theorem ko.make (h:ko m) (p:ByteArray) (kind:Int):ko (e9 m p kind).1:=by
 have T:=h.g.T'
 simp only [e9]
 cases hc:((!fY m)||(!(ao p).2.2))||((!(kind==1))&&(!(kind==2))) with
 | true=>exact h
 | false =>
 cases cb: !(aD m.aa p==0) with
 | true=>exact h
 | false =>
 cases fy:aD m.aa (ao p).1==0 with
 | true=>exact h
 | false =>
 cases iZ: !((ai m.aa (aD m.aa (ao p).1)).Kind==2) with
 | true=>exact h
 | false =>
 cases su:waits m (aD m.aa (ao p).1) (ao p).2.1 with
 | true=>exact h
 | false =>
 cases wu:((aT m).2==0)||(!room (aT m).1) with
 | true=>exact h
 | false =>
 simp only [zF]
 cases It:(dR (jl (aT m) kind) (aD m.aa (ao p).1) (ao p).2.1 (aT m).2).2==0 with
 | true=>exact h
 | false =>
 simp only [zF]
 simp only [Bool.or_eq_false_iff,Bool.not_eq_false',beq_eq_false_iff_ne,beq_iff_eq,Bool.and_eq_false_iff] at hc cb fy iZ wu
 have hk:kind=1\/kind=2:=hc.2
 obtain ⟨w1,w2,w3,w4,w5⟩:=yi h.g hc.1.2 cb fy iZ
 obtain ⟨g1,i8,b0,b1,t1,t2,t3,t4⟩:=h.g.X1 wu.1
 have z0:=sZ.1 wu.2
 rw [t1,t2] at z0
 have Ru:aW m.aa (aT m).2=0:=Decidable.byContradiction fun z=>by
  have:=h.g.g.NL _ i8 z
  rw [b0] at this; cases this
 have Yz:aW (aT m).1.aa (aT m).2=0:=by simp only [aW,ai,t3]; exact Ru
 have hgl:=g1.jl i8 hk Yz b1 fun x hx h5 hh=>by
  rw [t1] at hx
  have:=(h.g.fr x hx h5).2.1
  rw [hh,b0] at this; cases this
 have ac3:=hgl.bK (y:=bS (aO (aT m).2) (aT m).1.an) ((cR _ _).trans g1.R.dy)
 have cT:aD m.aa (ao p).1≠(aT m).2:=fun z=>by
  have h2:aW m.aa (aD m.aa (ao p).1)=2:=iZ
  rw [z,Ru] at h2; exact absurd h2 (by decide)
 have T1:=g1.T'
 obtain ⟨l1,l2,l3,l4,l5⟩:=Pw T1 i8 hk Yz
 have ek:∀ i,aW (aT m).1.aa i=aW m.aa i:=fun i=>by simp only [aW,ai,t3]
 have ep:∀ i k,aY (aT m).1.aa i k=aY m.aa i k:=fun i k=>by simp only [aY,ai,t3]
 have es:∀ q u,cF (aT m).1.aa q u=cF m.aa q u:=fun q u=>by simp only [cF,aN,t4]
 have ec:∀ i,lj (aT m).1.aa i=lj m.aa i:=oO T.di T1.di (fun i _=>ek i) (fun i k _=>ep i k) t4
 have Kb:(aT m).2≠0:=by obtain ⟨a,b⟩:=i8; omega
 have c0:∀ p s,lQ p->nq m.aa p->(cF m.aa p s).Ino≠(aT m).2:=fun p s hp ho he=>by
  have:=(h.g.g.nm p s hp ho (by rw [he]; exact Kb)).1
  rw [he] at this; exact this Ru
 have hI:M5 (jl (aT m) kind) (aD m.aa (ao p).1) (ao p).2.1 (aT m).2:=by
  refine ⟨w1,?_,w2,i8,?_,?_,fun _=>⟨?_,?_,?_⟩⟩
  ·show aW (aQ (aT m).1.aa (aT m).2 (ba kind)) _=2
   rw [l1 _ w1,if_neg cT,ek]; exact iZ
  ·rcases w3 with z | z
   ·exact .inl z
   ·refine .inr ?_
    show lj (aQ (aT m).1.aa (aT m).2 (ba kind)) _≠0
    rw [l3,ec]; exact z
  ·intro l t
   show aY (aQ (aT m).1.aa (aT m).2 (ba kind)) _ l≠0->(cF (aT m).1.aa (aY (aQ (aT m).1.aa (aT m).2 (ba kind)) _ l) t).Name≠_
   rw [l2 _ _ w1,ep,es]; exact w4 l t
  ·intro k
   show aY (aQ (aT m).1.aa (aT m).2 (ba kind)) _ k=0
   rw [l2 _ _ i8]; exact l4 k
  ·show lj (aQ (aT m).1.aa (aT m).2 (ba kind)) _=0
   rw [l3,ec]; exact (T.HU Kb).2 c0
  ·intro r hr
   refine w5 r ⟨hr.1,fun a k s ha hb hz hd he=> ?_⟩
   have NR:a≠(aT m).2:=fun z=>by rw [z,Ru] at hb; exact absurd hb (by decide)
   have:=hr.2 a k s ha
   have e1:aW (jl (aT m) kind).aa a=2:=by
    show aW (aQ (aT m).1.aa (aT m).2 (ba kind)) _=2
    rw [l1 _ ha,if_neg NR,ek]; exact hb
   have e2:aY (jl (aT m) kind).aa a k=aY m.aa a k:=by
    show aY (aQ (aT m).1.aa (aT m).2 (ba kind)) _ k=_
    rw [l2 _ _ ha,ep]
   have e3:∀ q u,cF (jl (aT m) kind).aa q u=cF m.aa q u:=fun q u=>es q u
   rw [e2,e3] at this
   refine this e1 hz hd ?_
   show aW (aQ (aT m).1.aa (aT m).2 (ba kind)) _=2
   rw [l1 _ (T.Dw (T.gY ha hz) hd),if_neg (c0 _ s (T.gY ha hz) ⟨a,k,ha,hb,rfl⟩),ek]; exact he
 have TA:(jl (aT m) kind).ae.length=m.ae.length:=by show (aT m).1.ae.length=_; rw [t1]
 have ZW:(jl (aT m) kind).Next=m.Next:=t2
 have P:=(qC (m:=jl (aT m) kind) ac3 (by rw [TA]; omega) (by rw [ZW]; omega) hI).resolve_left (by simpa using It)
 have p1:=P.len
 have p2:=P.nx
 rw [TA] at p1; rw [ZW] at p2
 exact ko.of P.g (by omega) (by omega)
theorem ko.text (h:ko m) (p:ByteArray) (x:Int) (s:ByteArray):ko (jQ m p x s).1:=by
 have T:=h.g.T'
 have vy:=h.g.R.n1
 simp only [jQ]
 cases hc:(((!fY m)||(!(aP p).2))||(!within x 0 1))||(decide (16<(s.size:Int))) with
 | true=>exact h
 | false =>
 cases cb:aD m.aa p==0 with
 | true=>exact h
 | false =>
 cases fy: !((ai m.aa (aD m.aa p)).Kind==1) with
 | true=>exact h
 | false =>
 simp only [zF]
 simp only [Bool.or_eq_false_iff,Bool.not_eq_false',beq_eq_false_iff_ne,beq_iff_eq,decide_eq_false_iff_not,ak] at hc cb fy
 have w8:I8 (aD m.aa p):=((lB T.di p).resolve_left cb)
 have hk:aW m.aa (aD m.aa p)=1:=fy
 have mH:s.size<=16:=by have:=hc.2; omega
 generalize aD m.aa p=w at *
 have hx:=hc.1.2
 cases hb:(ai m.aa w).ay.getD x.toNat 0==0 with
 | false =>
  simp only [zF]
  have Wm:aY m.aa w x.toNat≠0:=by simpa [aY] using hb
  exact ⟨(h.g.text w8 hk rfl Wm mH).bK ((cR _ _).trans h.g.R.dy),h.len,h.TS⟩
 | true =>
  simp only [zE]
  cases iZ:((aX m).2==0)||(!room m) with
  | true=>exact h
  | false =>
  simp only [zF]
  simp only [Bool.or_eq_false_iff,Bool.not_eq_false',beq_eq_false_iff_ne] at iZ
  have z0:=sZ.1 iZ.2
  obtain ⟨g1,F,Io⟩:=h.g.take iZ.1
  obtain ⟨t1,t2,t3,t4⟩:=sI m
  generalize aX m=t at *
  have Wm:aY m.aa w x.toNat=0:=beq_iff_eq.1 hb
  have ek:aW t.1.aa w=1:=by simp only [aW,ai,t3]; exact hk
  have ep:aY t.1.aa w x.toNat=0:=by simp only [aY,ai,t3]; exact Wm
  have hmp:dW t.1=true:=c9.2 ⟨by rw [t1]; omega,by rw [t2]; omega,by rw [t2]; omega⟩
  have Ak:=g1.grow hmp w8 (by rw [ek]; decide) (x:=x.toNat) (by omega) ep F.b Io F.p F.f F.n (b:=⟨false,[],s⟩) (by simp only [bA,zF]; simp [mH]) (by rw [ek]; simp) (fun s=>rfl)
  have Uo:((x.toNat:Nat):Int)=x:=Int.toNat_of_nonneg hx.1
  have qd:pE (sX t w x) t.2 s=⟨(kA t.1 w x.toNat t.2 ⟨false,[],s⟩).aa,bS (aG t.2) (bS (aO w) t.1.an),(kA t.1 w x.toNat t.2 ⟨false,[],s⟩).ae,t.1.Next+1⟩:=by
   have:=kM (m:=⟨aQ t.1.aa w (gR (ai t.1.aa w) x.toNat t.2),bS (aO w) t.1.an,t.1.ae,t.1.Next⟩) hmp ⟨0,1,w,x,t.2,0,eS,false,false,0,[]⟩
   simp only [sX,this,pE,kA,Uo]; rfl
  rw [qd]
  have hgg:=Ak.bK (y:=bS (aG t.2) (bS (aO w) t.1.an)) ((cR _ _).trans ((cR _ _).trans g1.R.dy))
  refine ko.of hgg ?_ ?_
  ·show (t.1.ae++[_]).length<=36
   rw [zK,zL,t1]; omega
  ·show t.1.Next+1<=_; rw [t2]; omega
theorem JX (T:cJ d) (g:DG d) {j:Int} (hj:I8 j) (h:pw d j=[]):∀ k t,aW d j=2->aY d j k≠0->(cF d (aY d j k) t).Ino=0:=by
 intro k t hk h0
 have hB:=T.gY hj h0
 have hd:=(g.pk j k hj h0).2 hk
 simp only [pw,T.di,show within j 1 ((8:Nat):Int)=true from ak.2 ⟨hj.1,hj.2⟩,show (ai d j).Kind=2 from hk,Bool.true_and,beq_self_eq_true,zE,List.flatMap_eq_nil_iff] at h
 have h1:=h (aY d j k) ((m9 h0).2 ⟨k,rfl⟩)
 have hb:cV d (aY d j k)=(aN d (aY d j k),true):=by
  simp only [cV,T.db,show within (aY d j k) 1 ((16:Nat):Int)=true from ak.2 ⟨hB.1,hB.2⟩,zE]
 rw [hb] at h1
 simp only [pF,hd,zE,List.map_eq_nil_iff,List.filter_eq_nil_iff] at h1
 rcases T.wH hB t with z | z
 ·rw [z]; rfl
 ·have h4:=dm (T.nM hB.1 hB.2) z.2.1
  have:=h1 (cF d (aY d j k) t) (aU aq (by omega))
  have h5:(cF d (aY d j k) t).Name=eS:=by simpa using this
  exact absurd h5 (fT z.2.2.1)
theorem ko.remove (h:ko m) (p:ByteArray):ko (iy m p).1:=by
 have T:=h.g.T'
 have vy:=h.g.R.n1
 simp only [iy]
 cases hc:(!fY m)||(!(ao p).2.2) with
 | true=>exact h
 | false =>
 simp only [Bool.or_eq_false_iff,Bool.not_eq_false'] at hc
 simp only [zF,tH]
 obtain ⟨l,x,e1,e2,e3,hx,hl,hl3⟩:=gX hc.2
 rw [e3]
 cases cb:(find m.aa (aD m.aa (ao p).1) x).2.2==0 with
 | true=>exact h
 | false =>
 have F:=(xp T (w:=aD m.aa (ao p).1) hx).resolve_left (fun z=>by rw [z.1] at cb; cases cb)
 generalize find m.aa (aD m.aa (ao p).1) x=f at *
 simp only [zF]
 cases fy:((decide (0<((pw m.aa f.2.2).length:Int)))||(((ai m.aa f.2.2).Kind==2)&&held m f.2.2))||(!room m) with
 | true=>exact h
 | false =>
 simp only [zF]
 simp only [Bool.or_eq_false_iff,Bool.not_eq_false',decide_eq_false_iff_not] at fy
 have z0:=sZ.1 fy.2
 have ZW:pw m.aa f.2.2=[]:=List.length_eq_zero_iff.1 (by have:=fy.1.1; omega)
 have hI:(cF m.aa f.1 f.2.1.toNat).Ino=f.2.2:=by rw [F.sl]
 have NG:=F.i8
 have Rw:(cF m.aa f.1 f.2.1.toNat).Ino≠0:=by rw [hI]; obtain ⟨a,b⟩:=NG; omega
 have hg:=h.g.eN (c9.2 ⟨by omega,vy,by omega⟩) F.b F.own F.s.1 F.s.2 Rw (by rw [hI]; exact JX T h.g.g NG ZW) (b:=0) (.inl rfl)
 have TA:=xO m f.1 f.2.1 0
 exact ko.of hg (by omega) (by omega)
theorem ko.move (h:ko m) (p q:ByteArray):ko (jt m p q).1:=by
 have T:=h.g.T'
 have vy:=h.g.R.n1
 simp only [jt]
 cases hc:((!fY m)||(!(ao p).2.2))||(!(ao q).2.2) with
 | true=>exact h
 | false =>
 simp only [Bool.or_eq_false_iff,Bool.not_eq_false'] at hc
 simp only [zF,yI]
 obtain ⟨l,x,e1,e2,e3,hx,hl,hl3⟩:=gX hc.1.2
 rw [e3]
 cases cb:((find m.aa (aD m.aa (ao p).1) x).2.2==0)||(aD m.aa (ao q).1==0) with
 | true=>exact h
 | false =>
 simp only [Bool.or_eq_false_iff] at cb
 have F:=(xp T (w:=aD m.aa (ao p).1) hx).resolve_left (fun z=>by rw [z.1] at cb; exact absurd cb.1 (by decide))
 generalize find m.aa (aD m.aa (ao p).1) x=f at *
 simp only [zF]
 cases fy:(!((ai m.aa f.2.2).Kind==1))||(!((ai m.aa (aD m.aa (ao q).1)).Kind==2)) with
 | true=>exact h
 | false =>
 simp only [zF]
 cases iZ: !(aD m.aa q==0) with
 | true=>exact h
 | false =>
 simp only [zF]
 cases su:waits m (aD m.aa (ao q).1) (ao q).2.1||deep m (ao q).1 with
 | true=>exact h
 | false =>
 simp only [zF]
 cases wu: !room m with
 | true=>exact h
 | false =>
 simp only [zF]
 cases It:decide (200<=(ai m.aa f.2.2).Links) with
 | true=>exact h
 | false =>
 simp only [zF,Fh]
 cases Xm:(dR (da m f.2.2) (aD m.aa (ao q).1) (ao q).2.1 f.2.2).2==0 with
 | true=>exact h
 | false =>
 simp only [zF]
 simp only [Bool.or_eq_false_iff,Bool.not_eq_false',beq_eq_false_iff_ne,beq_iff_eq,decide_eq_false_iff_not] at cb fy iZ su wu It Xm
 have z0:=sZ.1 wu
 obtain ⟨w1,w2,w3,w4,w5⟩:=yi h.g hc.2 iZ cb.2 fy.2
 have NG:=F.i8
 have wq:aW m.aa f.2.2=1:=fy.1
 have hgm:=h.g.Ov NG wq (by show (ai m.aa f.2.2).Links<200; omega)
 have Nx:=hgm.bK (y:=bS (aO f.2.2) m.an) ((cR _ _).trans h.g.R.dy)
 have ek:∀ i,I8 i->aW (da m f.2.2).aa i=aW m.aa i:=fun i hi=>by
  show aW (aQ m.aa f.2.2 _) i=_
  rw [dD T.di NG hi]; split
  ·next z=>rw [z]; rfl
  ·rfl
 have ep:∀ i k,I8 i->aY (da m f.2.2).aa i k=aY m.aa i k:=fun i k hi=>by
  show aY (aQ m.aa f.2.2 _) i k=_
  rw [fc T.di NG hi]; split
  ·next z=>rw [z]; rfl
  ·rfl
 have es:∀ q u,cF (da m f.2.2).aa q u=cF m.aa q u:=fun q u=>rfl
 have eo:=oJ ek ep
 have ec:=oO T.di (Nx.T'.di) ek ep rfl
 have Uu:M5 (da m f.2.2) (aD m.aa (ao q).1) (ao q).2.1 f.2.2:=by
  refine ⟨w1,by rw [ek _ w1]; exact fy.2,w2,NG,?_,?_,fun z=>by rw [ek _ NG,wq] at z; exact absurd z (by decide)⟩
  ·rcases w3 with z | z
   ·exact .inl z
   ·exact .inr (by show lj (da m f.2.2).aa _≠0; rw [show lj (da m f.2.2).aa _=lj m.aa _ from ec _]; exact z)
  ·intro l t; rw [ep _ _ w1,es]; exact w4 l t
 have P:=(qC (m:=da m f.2.2) Nx (by show m.ae.length<=38; omega) (by show m.Next<=99998; omega) Uu).resolve_left Xm
 generalize dR (da m f.2.2) (aD m.aa (ao q).1) (ao q).2.1 f.2.2=t at *
 have hI:(cF m.aa f.1 f.2.1.toNat).Ino=f.2.2:=by rw [F.sl]
 have WB:f.2.2≠0:=by obtain ⟨a,b⟩:=NG; omega
 have ho:=F.own
 have hB:=F.b
 have Xi:f.1≠0:=by obtain ⟨a,b⟩:=hB; omega
 have TJ:nq (da m f.2.2).aa f.1:=(eo _).2 ho
 have hs1:cF t.1.aa f.1 f.2.1.toNat=cF m.aa f.1 f.2.1.toNat:=P.same _ _ hB TJ (by rw [es,hI]; exact WB)
 have LN:(cF t.1.aa f.1 f.2.1.toNat).Ino=f.2.2:=by rw [hs1,hI]
 obtain ⟨dp,ds,W9,hd2,Nt⟩:=P.dep
 have hl1:=P.len
 have Nv:=P.nx
 have ahx:t.1.ae.length<=m.ae.length+2:=hl1
 have agF:t.1.Next<=m.Next+2:=Nv
 have hg:=P.g.eN (c9.2 ⟨by omega,P.g.R.n1,by omega⟩) hB (P.own _ Xi TJ) F.s.1 F.s.2 (by rw [LN]; exact WB) (by
  rw [LN]; intro k u z; rw [P.kind _ NG,ek _ NG,wq] at z; exact absurd z (by decide)) (b:=t.2) (.inr ⟨_,W9,rfl,.inl rfl,by rw [LN]; rfl,fun z=>by
   rcases vX P.g.R f.1 f.2.1 with ⟨z1,_⟩ | ⟨y,hy,z1,z2,z3,z4,_⟩
   ·rw [z1] at z
    have:=(eI (P.g.R.num _ W9)).1.1
    have this':1<=t.2:=this
    omega
   ·have:=p5 P.g.R.ids W9 hy (z.trans z4)
    rw [← this] at z2 z3
    have z2':dp=f.1:=z2
    have z3':ds=f.2.1:=z3
    have:=Nt (by rw [z2']; exact TJ)
    rw [z2',z3',es,F.sl] at this
    exact WB (congrArg Slot.Ino this)⟩)
 have TA:=xO t.1 f.1 f.2.1 t.2
 exact ko.of hg (by omega) (by omega)
theorem Nd (h:fK m) {z:bG} (hz:z∈m.ae) (h4:z.Kind=4):lO (bd m z.Id).ae+1=lO m.ae:=by
 have:=rJ h.ids hz (fun d=>d.Kind==4)
 rw [h4] at this; exact this
theorem GP (h:fK m) {z:bG} (hz:z∈m.ae):(bd m z.Id).ae.length+1=m.ae.length:=by
 have:=rJ h.ids hz (fun _=>true)
 simp only [zE,List.countP_true] at this; exact this
theorem Mw (i:Int) (m:Mem):lO (iI i m).ae=lO m.ae:=by
 simp only [iI]
 cases decide (40<=(m.ae.length:Int))|| !within m.Next 1 99999 with
 | true=>rfl
 | false =>
  simp only [zF]
  cases decide (0<(gG (ai m.aa i)).Links)||((gG (ai m.aa i)).Kind==0) with
  | true=>rfl
  | false =>
   have hf:lO (m.ae.filter (stays i))=lO m.ae:=by
    simp only [lO,List.countP_filter]
    apply List.countP_congr
    intro d _
    by_cases h4:d.Kind=4
    ·simp [h4,stays]
    ·simp [h4]
   simp only [zF,b8]
   cases dW ⟨aQ m.aa i (ba 0),bS (aO i) m.an,m.ae.filter (stays i),m.Next⟩ with
   | false=>exact hf
   | true =>
    simp only [zE,lO,List.countP_append,List.countP_singleton]
    exact hf
theorem Bx {i:Int} {y:bG} (hy:y∈m.ae) (h1:y.Kind≠1) (h6:y.Kind≠6):y∈(iI i m).ae:=by
 have qd:stays i y=true:=by simp only [stays]; rw [beq_eq_false_iff_ne.2 h1,beq_eq_false_iff_ne.2 h6]; rfl
 simp only [iI]
 cases decide (40<=(m.ae.length:Int))|| !within m.Next 1 99999 with
 | true=>exact hy
 | false =>
  simp only [zF]
  cases decide (0<(gG (ai m.aa i)).Links)||((gG (ai m.aa i)).Kind==0) with
  | true=>exact hy
  | false =>
   have hf:y∈m.ae.filter (stays i):=List.mem_filter.2 ⟨hy,qd⟩
   simp only [zF,b8]
   cases dW ⟨aQ m.aa i (ba 0),bS (aO i) m.an,m.ae.filter (stays i),m.Next⟩ with
   | false=>exact hf
   | true=>exact List.mem_append_left _ hf
theorem yK {i:Int} {y:bG} (hy:y∈(iI i m).ae):y∈m.ae\/(y.Kind=5/\y.Id=m.Next):=by
 revert hy
 simp only [iI]
 cases decide (40<=(m.ae.length:Int))|| !within m.Next 1 99999 with
 | true=>exact .inl
 | false =>
  simp only [zF]
  cases decide (0<(gG (ai m.aa i)).Links)||((gG (ai m.aa i)).Kind==0) with
  | true=>exact .inl
  | false =>
   simp only [zF,b8]
   cases dW ⟨aQ m.aa i (ba 0),bS (aO i) m.an,m.ae.filter (stays i),m.Next⟩ with
   | false=>exact fun hy=> .inl (List.mem_filter.1 hy).1
   | true =>
    intro hy
    rcases zH.1 hy with hy | hy
    ·exact .inl (List.mem_filter.1 hy).1
    ·rw [zS] at hy; subst hy; exact .inr ⟨rfl,rfl⟩
theorem yA (i:Int) (m:Mem):m.Next<=(iI i m).Next:=by
 simp only [iI]
 cases decide (40<=(m.ae.length:Int))|| !within m.Next 1 99999 with
 | true=>exact Int.le_refl _
 | false =>
  simp only [zF]
  cases decide (0<(gG (ai m.aa i)).Links)||((gG (ai m.aa i)).Kind==0) with
  | true=>exact Int.le_refl _
  | false =>
   simp only [zF,b8]
   cases dW ⟨aQ m.aa i (ba 0),bS (aO i) m.an,m.ae.filter (stays i),m.Next⟩ with
   | false=>exact Int.le_refl _
   | true=>show m.Next<=m.Next+1; omega
structure PH (X:List Int) (m:Mem):Prop where
 g:Gd 0 X m
 len:m.ae.length<=36
 TS:m.Next+lO m.ae<=99100
theorem PH.Hc (h:PH X m) {z:bG} (hz:z∈m.ae) (h4:z.Kind=4):PH X (Soft.iI z.Ino (bd m z.Id)):=by
 have h1:=Nd h.g.R hz h4
 have h2:=GP h.g.R hz
 have h3:=h.len
 have h5:=h.TS
 have hn:(bd m z.Id).Next=m.Next:=rfl
 have hg:=(h.g.S2 hz h4).iI (dx (h.g.R.num z hz)) (c9.2 ⟨by omega,h.g.R.n1,by show m.Next<=99999; omega⟩)
 have hl:=Hq z.Ino (bd m z.Id)
 refine ⟨hg,by omega,?_⟩
 rw [Mw]; have:=hl.2; omega
theorem wV:∀ (bl:List Int) (bb:List Bool) (p:Int),(∀ q∈bl,1<=q)->1<=p->p∉bl->(jF bl bb).getD (p-1).toNat false=bb.getD (p-1).toNat false
 | [],bb,p,_,_,_=>rfl
 | q::bl,bb,p,h,hp,hn=>by
  show (jF bl (bb.set (q-1).toNat false)).getD (p-1).toNat false=_
  rw [wV bl _ p (fun x hx=>h x (zJ _ hx)) hp fun hx=>hn (zJ _ hx),cK,if_neg]
  rintro ⟨h1,_⟩
  have:=h q zO
  exact hn (by rw [show p=q by omega]; exact zO)
theorem xw:∀ (bl:List Int) (bb:List Bool),(jF bl bb).length=bb.length
 | [],bb=>rfl
 | q::bl,bb=>by
  show (jF bl (bb.set (q-1).toNat false)).length=_
  rw [xw bl,List.length_set]
theorem Gd.tA (h:Gd 0 [] m) {x:bG} (hx:x∈m.ae) (h5:x.Kind=5):Gd 0 x.ab (Soft.tA x (bd m x.Id)):=by
 have T:=h.T'
 obtain ⟨a1,a2,a3,a4⟩:=h.fr x hx h5
 have hi:=dx (h.R.num x hx)
 have Rq:=fun p hp=>ak.1 (List.all_eq_true.1 (h.R.bs x hx) p hp)
 have hs:=List.filter_sublist (p:=fun y:bG=> !(y.Id==x.Id)) (l:=m.ae)
 have hr:=pR (l:=m.ae) (P:=fun y=> !(y.Id==x.Id)) fun d hd h4=>by
  have:d.Id≠x.Id:=fun hh=>by have:=p5 h.R.ids hd hx hh; rw [this,h5] at h4; exact absurd h4 (by decide)
  simpa using this
 have Io:∀ p,lQ p->p∉x.ab->(jF x.ab m.aa.au.ab).getD (p-1).toNat false=Cx m.aa p:=fun p hp hn=>wV _ _ _ (fun q hq=>(Rq q hq).1) hp.1 hn
 have Tr:∀ i,I8 i->i≠x.Ino->(m.aa.au.bF.set (x.Ino-1).toNat false).getD (i-1).toNat false=Dj m.aa i:=fun i sx cT=>by
  rw [cK,if_neg]
  ·rfl
  ·rintro ⟨q,_⟩
   obtain ⟨b1,b2⟩:=sx
   omega
 have hR:=(h.R.drop x.Id).tR (bb:=jF x.ab m.aa.au.ab) (bi:=m.aa.au.bF.set (x.Ino-1).toNat false) ((xw _ _).trans T.bb) (List.length_set.trans T.bi)
 have hg:DG ⟨⟨jF x.ab m.aa.au.ab,m.aa.au.bF.set (x.Ino-1).toNat false⟩,m.aa.ad,m.aa.ab⟩:=DG.same T h.g T.di rfl (fun _ _=>rfl) (fun _ _ _=>rfl) (fun _ _ _=>rfl)
  (fun i k sx h0=>(Io _ (T.gY sx h0) (fun q=>(a4 _ q).2 i k sx rfl)).trans (h.g.bm i k sx h0))
  (fun i sx h0=>(Tr i sx (fun q=>h0 (q▸a1))).trans (h.g.NL i sx h0))
 have hR2:fK (Soft.tA x (bd m x.Id)):=hR.bK ((cR _ _).trans h.R.dy)
 have adG:∀ y∈m.ae,y.Kind=5->y.Id≠x.Id->y.Ino≠x.Ino/\∀ p∈y.ab,p∉x.ab:=fun y hy Y9 cT=>by
  have:=h.EM
  rw [List.pairwise_iff_getElem] at this
  obtain ⟨i1,Am,rfl⟩:=List.mem_iff_getElem.1 hx
  obtain ⟨i2,Wq,rfl⟩:=List.mem_iff_getElem.1 hy
  rcases Nat.lt_trichotomy i1 i2 with fW | heq | hgt
  ·have:=this i1 i2 Am Wq fW h5 Y9
   exact ⟨fun q=>this.1 q.symm,fun p hp hq=>this.2 p hq hp⟩
  ·subst heq; exact absurd rfl cT
  ·exact this i2 i1 Wq Am hgt Y9 h5
 refine ⟨hR2,fun d hd=>h.sz d (hs.subset hd),hg,?_,h.EM.sublist hs,?_,?_,?_,fun d hd=>h.nd d (hs.subset hd),?_,h.us.sublist hs,?_⟩
 ·intro y hy Y9
  obtain ⟨NA,cT⟩:=dN.1 hy
  obtain ⟨b1,b2,b3,b4⟩:=h.fr y NA Y9
  obtain ⟨c1,c2⟩:=adG y NA Y9 cT
  refine ⟨b1,(Tr _ (dx (h.R.num y NA)) c1).trans b2,b3,fun p hp=>⟨(Io p ?_ (c2 p hp)).trans (b4 p hp).1,(b4 p hp).2⟩⟩
  have:=ak.1 (List.all_eq_true.1 (h.R.bs y NA) p hp)
  exact ⟨this.1,this.2⟩
 ·intro j; show _->_->_->_=_+((gI (m.ae.filter fun y=> !(y.Id==x.Id)) j:Nat):Int)+_; rw [hr]; exact h.lk j
 ·intro j; show _->_->gI (m.ae.filter fun y=> !(y.Id==x.Id)) j=0/\_; rw [hr]; exact h.C2 j
 ·show gI (m.ae.filter fun y=> !(y.Id==x.Id)) 1=0/\_; rw [hr]; exact h.rt
 ·intro y hy h4
  obtain ⟨NA,cT⟩:=dN.1 hy
  obtain ⟨a,b⟩:=h.rd y NA h4
  refine ⟨a,?_⟩
  rcases b with b | b | ⟨f,hf,C6,Gn⟩
  ·exact .inl b
  ·cases b
  ·by_cases hh:f.Id=x.Id
   ·have:=p5 h.R.ids hf hx hh
    subst this; exact .inr (.inl Gn)
   ·exact .inr (.inr ⟨f,dN.2 ⟨hf,hh⟩,C6,Gn⟩)
 ·intro y hy h4 h0
  obtain ⟨NA,cT⟩:=dN.1 hy
  obtain ⟨z,hz,a,b,c⟩:=h.af y NA h4 h0
  refine ⟨z,dN.2 ⟨hz,fun hh=> ?_⟩,a,b,c⟩
  have:=p5 h.R.ids hz hx hh
  rw [this,h5] at b; omega
theorem sL:∀ (l:List bG) (o:Mem),PH X o->(l.Pairwise fun a b=>¬ a.Id=b.Id)->(∀ z∈l,z.Kind=4->z∈o.ae)->(∀ y∈o.ae,y.Kind=4->y.Block∈X->y∈l) ->
  PH X (l.foldl (oN X) o)/\(∀ y∈(l.foldl (oN X) o).ae,y.Kind=4->y.Block∉X)/\(∀ y∈o.ae,(y.Kind=5\/y.Kind=3)->(∀ z∈l,z.Kind=4->z.Id≠y.Id)->y∈(l.foldl (oN X) o).ae)/\o.Next<=(l.foldl (oN X) o).Next /\
  (∀ y∈(l.foldl (oN X) o).ae,y∈o.ae\/(y.Kind=5/\o.Next<=y.Id))/\(l.foldl (oN X) o).aa.ab=o.aa.ab
 | [],o,h,_,_,h2=>⟨h,fun y hy h4 hX=>(List.not_mem_nil (h2 y hy h4 hX)).elim,fun y hy _ _=>hy,Int.le_refl _,fun y hy=> .inl hy,rfl⟩
 | z::l,o,h,hp,h1,h2=>by
  rw [List.pairwise_cons] at hp
  rw [List.foldl_cons]
  have e:oN X o z=if z.Kind=4/\z.Block∈X then iI z.Ino (bd o z.Id) else o:=by
   simp only [oN]
   by_cases hk:z.Kind=4
   ·by_cases hX:z.Block∈X
    ·rw [if_pos ⟨hk,hX⟩,hk,FA.2 hX]; rfl
    ·rw [if_neg (fun q=>hX q.2)]
     have:has X z.Block=false:=by rw [← Bool.not_eq_true,FA]; exact hX
     rw [this,Bool.and_false]; rfl
   ·rw [if_neg (fun q=>hk q.1),beq_eq_false_iff_ne.2 hk]; rfl
  rw [e]
  by_cases hc:z.Kind=4/\z.Block∈X
  ·rw [if_pos hc]
   have hz:=h1 z zO hc.1
   have hM:=h.Hc hz hc.1
   have jg:(iI z.Ino (bd o z.Id)).aa.ab=o.aa.ab:=by
    simp only [iI]
    cases decide (40<=((bd o z.Id).ae.length:Int))|| !within (bd o z.Id).Next 1 99999 with
    | true=>rfl
    | false =>
     simp only [zF]
     cases decide (0<(gG (ai (bd o z.Id).aa z.Ino)).Links)||((gG (ai (bd o z.Id).aa z.Ino)).Kind==0) with
     | true=>rfl
     | false=>simp only [zF,zZ]; rfl
   have:=sL l _ hM hp.2 (fun y hy h4=>Bx (dN.2 ⟨h1 y (zJ _ hy) h4,fun q=>hp.1 y hy q.symm⟩) (by omega) (by omega)) (fun y hy h4 hX=>by
    rcases yK hy with q | q
    ·obtain ⟨q1,q2⟩:=dN.1 q
     exact (zI.1 (h2 y q1 h4 hX)).resolve_left fun q=>q2 (by rw [q])
    ·omega)
   obtain ⟨r1,r2,r3,r4,r5,r6⟩:=this
   refine ⟨r1,r2,fun y hy hk cT=>r3 y (Bx (dN.2 ⟨hy,fun q=>cT z zO hc.1 q.symm⟩) (by omega) (by omega)) hk fun w hw=>cT w (zJ _ hw),Int.le_trans (yA z.Ino (bd o z.Id)) r4,fun y hy=> ?_,r6.trans jg⟩
   rcases r5 y hy with q | q
   ·rcases yK q with q | q
    ·exact .inl (dN.1 q).1
    ·exact .inr ⟨q.1,by rw [q.2]; exact Int.le_refl _⟩
   ·exact .inr ⟨q.1,Int.le_trans (yA z.Ino (bd o z.Id)) q.2⟩
  ·rw [if_neg hc]
   have:=sL l o h hp.2 (fun y hy h4=>h1 y (zJ _ hy) h4) (fun y hy h4 hX=>(zI.1 (h2 y hy h4 hX)).resolve_left fun q=>hc (by rw [← q]; exact ⟨h4,hX⟩))
   obtain ⟨r1,r2,r3,r4,r5,r6⟩:=this
   exact ⟨r1,r2,fun y hy hk cT=>r3 y hy hk fun w hw=>cT w (zJ _ hw),r4,r5,r6⟩
theorem PH.tq (h:PH [] m) {x:bG} (hx:x∈m.ae) (h5:x.Kind=5):PH [] (Soft.tq x m)/\(∀ y∈m.ae,y.Id≠x.Id->(y.Kind=5\/y.Kind=3)->y∈(Soft.tq x m).ae)/\m.Next<=(Soft.tq x m).Next /\
  (∀ y∈(Soft.tq x m).ae,y∈m.ae\/(y.Kind=5/\m.Next<=y.Id))/\(Soft.tq x m).aa.ab=m.aa.ab:=by
 have hg:=h.g.tA hx h5
 have hl:=GP h.g.R hx
 have hra:lO (bd m x.Id).ae=lO m.ae:=by
  have:=rJ h.g.R.ids hx (fun d=>d.Kind==4)
  rw [h5] at this; exact this
 have hlen:=h.len
 have YJ:=h.TS
 have hM:PH x.ab (tA x (bd m x.Id)):=⟨hg,by show (bd m x.Id).ae.length<=36; omega,by show m.Next+lO (bd m x.Id).ae<=99100; rw [hra]; exact YJ⟩
 obtain ⟨r1,r2,r3,r4,r5,r6⟩:=sL (bd m x.Id).ae _ hM (h.g.R.ids.sublist List.filter_sublist) (fun z hz _=>hz) (fun y hy _ _=>hy)
 refine ⟨⟨?_,r1.len,r1.TS⟩,fun y hy cT hk=>r3 y (dN.2 ⟨hy,cT⟩) hk fun z hz h4 hh=> ?_,r4,fun y hy=> ?_,r6⟩
 ·have g:=r1.g
  refine ⟨g.R,g.sz,g.g,g.fr,g.EM,g.lk,g.C2,g.rt,g.nd,?_,g.us,g.af⟩
  intro y hy h4
  obtain ⟨a,b⟩:=g.rd y hy h4
  refine ⟨a,?_⟩
  rcases b with b | b | b
  ·exact .inl b
  ·exact absurd b (r2 y hy h4)
  ·exact .inr (.inr b)
 ·have:=p5 h.g.R.ids (dN.1 hz).1 hy hh
  subst this; omega
 ·rcases r5 y hy with q | q
  ·exact .inl (dN.1 q).1
  ·exact .inr q
def Yj (u:Int) (x:bG):Prop:=(x.Kind=5/\aO x.Ino=u)\/(x.Kind=3/\aG x.Block=u)\/(x.Kind=4/\x.bx=0/\aG x.Block=u)
theorem Ae {i:Int} (h:I8 i):1<=aO i/\aO i<=4:=by
 obtain ⟨a,b⟩:=h
 simp only [aO,ak.2 ⟨a,b⟩,zE]; omega
theorem pT (p:Int):aG p= -1\/5<=aG p:=by
 simp only [aG]
 cases h:within p 1 16 with
 | true=>rw [ak] at h; right; simp only [zE]; omega
 | false=>exact .inl rfl
theorem Jf (id b:Int) (m:Mem):lO (shown id b m).ae<=lO m.ae:=by
 have h1:lO (shown id b m).ae=lO (bd m id).ae:=by
  simp only [shown,lO,List.countP_map]
  apply List.countP_congr
  intro y _
  simp [(bo id b y).2.1]
 rw [h1]
 exact List.Sublist.countP_le List.filter_sublist
structure DI (u:Int) (l:List bG) (o:Mem):Prop where
 M:PH [] o
 k:∀ x∈l,∀ y∈o.ae,y.Id=x.Id->y.Kind=x.Kind
 n:∀ x∈l,x.Id<o.Next
 p:∀ x∈l,Yj u x->x∈o.ae
theorem BF (u:Int) (o:Mem) (d:bG):(d.Kind=6/\aO d.Ino=u/\iK u o d=bd o d.Id)\/(d.Kind=5/\aO d.Ino=u/\iK u o d=tq d o)\/(d.Kind=3/\aG d.Block=u/\iK u o d=shown d.Id 0 o) \/
  (d.Kind=4/\d.bx=0/\aG d.Block=u/\iK u o d=iI d.Ino (bd o d.Id))\/(¬ (d.Kind=6/\aO d.Ino=u)/\¬ Yj u d/\iK u o d=o):=by
 simp only [iK]
 cases h6:(d.Kind==6)&&(aO d.Ino==u) with
 | true=>simp only [zB,beq_iff_eq] at h6; exact .inl ⟨h6.1,h6.2,rfl⟩
 | false =>
 cases h5:(d.Kind==5)&&(aO d.Ino==u) with
 | true=>simp only [zB,beq_iff_eq] at h5; exact .inr (.inl ⟨h5.1,h5.2,rfl⟩)
 | false =>
 cases h3:(d.Kind==3)&&(aG d.Block==u) with
 | true=>simp only [zB,beq_iff_eq] at h3; exact .inr (.inr (.inl ⟨h3.1,h3.2,rfl⟩))
 | false =>
 cases h4:((d.Kind==4)&&(d.bx==0))&&(aG d.Block==u) with
 | true=>simp only [zB,beq_iff_eq] at h4; exact .inr (.inr (.inr (.inl ⟨h4.1.1,h4.1.2,h4.2,rfl⟩)))
 | false =>
  refine .inr (.inr (.inr (.inr ⟨?_,?_,rfl⟩)))
  ·rintro ⟨a,b⟩; rw [a,b] at h6; simp at h6
  ·rintro (⟨a,b⟩ | ⟨a,b⟩ | ⟨a,b,c⟩)
   ·rw [a,b] at h5; simp at h5
   ·rw [a,b] at h3; simp at h3
   ·rw [a,b,c] at h4; simp at h4
theorem DI.step {u:Int} {x:bG} {l:List bG} {o:Mem} (h:DI u (x::l) o) (hp:(x::l).Pairwise fun a b=>¬ a.Id=b.Id) (hI:I8 x.Ino):DI u l (iK u o x):=by
 rw [List.pairwise_cons] at hp
 have hk:=fun y hy=>h.k y (zJ x hy)
 have hn:=fun y hy=>h.n y (zJ x hy)
 have nC:=fun y hy=>h.p y (zJ x hy)
 have hlen:=h.M.len
 have YJ:=h.M.TS
 rcases BF u o x with ⟨a,b,c⟩ | ⟨a,b,c⟩ | ⟨a,b,c⟩ | ⟨a,b,b',c⟩ | ⟨a,b,c⟩
 ·rw [c]
  have hg:=h.M.g.sub (P:=fun y=> !(y.Id==x.Id)) fun y hy h1 h6=>by
   have:=h.k x zO y hy
   have cT:y.Id≠x.Id:=fun q=>h6 ((this q).trans a)
   simpa using cT
  have hs:=List.filter_sublist (p:=fun y:bG=> !(y.Id==x.Id)) (l:=o.ae)
  refine ⟨⟨hg,Nat.le_trans hs.length_le hlen,?_⟩,fun y hy z hz=>hk y hy z (hs.subset hz),hn,fun y hy hr=>dN.2 ⟨nC y hy hr,fun q=>hp.1 y hy q.symm⟩⟩
  have:lO (o.ae.filter fun y=> !(y.Id==x.Id))<=lO o.ae:=List.Sublist.countP_le hs
  show o.Next+lO (o.ae.filter fun y=> !(y.Id==x.Id))<=99100
  omega
 ·rw [c]
  have hx:=h.p x zO (.inl ⟨a,b⟩)
  obtain ⟨r1,r2,r3,r4,_⟩:=h.M.tq hx a
  have hu:=Ae hI
  rw [b] at hu
  refine ⟨r1,fun y hy z hz Uf=> ?_,fun y hy=>Int.lt_of_lt_of_le (hn y hy) r3,fun y hy hr=>r2 y (nC y hy hr) (fun q=>hp.1 y hy q.symm) ?_⟩
  ·rcases r4 z hz with q | q
   ·exact hk y hy z q Uf
   ·have:=hn y hy; omega
  ·rcases hr with q | q | q
   ·exact .inl q.1
   ·have:=pT y.Block; omega
   ·have:=pT y.Block; omega
 ·rw [c]
  have hx:=h.p x zO (.inr (.inl ⟨a,b⟩))
  have hg:=h.M.g.shown hx (.inr a) (b:=0) (.inl rfl)
  refine ⟨⟨hg,Nat.le_trans (DJ _ _ _) hlen,?_⟩,fun y hy z hz Uf=> ?_,hn,fun y hy hr=> ?_⟩
  ·have:=Jf x.Id 0 o
   show o.Next+lO (shown x.Id 0 o).ae<=99100
   omega
  ·obtain ⟨w,hw,_,rfl⟩:=fi.1 hz
   rw [(bo _ _ w).1] at Uf; rw [(bo _ _ w).2.1]
   exact hk y hy w hw Uf
  ·refine fi.2 ⟨y,nC y hy hr,fun q=>hp.1 y hy q.symm,?_⟩
   have pr:=(eI (h.M.g.R.num x hx)).1.1
   simp only [eZ]
   rcases hr with q | q | q
   ·rw [q.1]; rfl
   ·rw [q.1]; rfl
   ·rw [q.1,q.2.1,beq_eq_false_iff_ne.2 (show (0:Int)≠x.Id by omega)]; rfl
 ·rw [c]
  have hx:=h.p x zO (.inr (.inr ⟨a,b,b'⟩))
  refine ⟨h.M.Hc hx a,fun y hy z hz Uf=> ?_,fun y hy=>Int.lt_of_lt_of_le (hn y hy) (yA x.Ino (bd o x.Id)),fun y hy hr=> ?_⟩
  ·rcases yK hz with q | q
   ·exact hk y hy z (dN.1 q).1 Uf
   ·have h1:=hn y hy
    have h2:z.Id=o.Next:=q.2
    omega
  ·refine Bx (dN.2 ⟨nC y hy hr,fun q=>hp.1 y hy q.symm⟩) ?_ ?_
   ·rcases hr with q | q | q<;>omega
   ·rcases hr with q | q | q<;>omega
 ·rw [c]; exact ⟨h.M,hk,hn,nC⟩
theorem DI.fold {u:Int}:∀ (l:List bG) (o:Mem),DI u l o->(l.Pairwise fun a b=>¬ a.Id=b.Id)->(∀ x∈l,I8 x.Ino)->PH [] (l.foldl (iK u) o)
 | [],o,h,_,_=>h.M
 | x::l,o,h,hp,hI=>by
  rw [List.foldl_cons]
  exact DI.fold l _ (h.step hp (hI x zO)) (List.pairwise_cons.1 hp).2 fun y hy=>hI y (zJ _ hy)
theorem Ee (u:Int):Df fun d=>m5 u (mW u d):=by
 refine ⟨fun d=> ?_,fun d=> ?_⟩
 ·obtain ⟨a1,a2,a3,a4,a5,a6,a7,a8,a9⟩:=kQ u d
  exact ⟨a1,a3,a4,a5,a6,a7,a8,a9⟩
 ·exact .inl (kQ u d).2.1
theorem A0 (l:List bG):Df (jy l):=by
 refine ⟨sN l,fun d=> ?_⟩
 simp only [jy]
 cases h:((d.Kind==1)&&d.au)&&d.eJ with
 | true=>simp only [zB,beq_iff_eq] at h; exact .inr (.inl ⟨h.1.1,rfl⟩)
 | false =>
  cases h2:(((d.Kind==2)&&d.au)&&d.eJ)&&(!pending l d.Block) with
  | true=>simp only [zB,beq_iff_eq] at h2; exact .inr (.inr ⟨h2.1.1.1,rfl⟩)
  | false=>exact .inl rfl
theorem R5 (u:Int) {d:bG} (h1:d.Kind≠1) (h2:d.Kind≠2):m5 u (mW u d)=d:=by
 have e1:mW u d=d:=by simp only [mW]; rw [beq_eq_false_iff_ne.2 h1,beq_eq_false_iff_ne.2 h2,Bool.or_false,Bool.and_false]; rfl
 rw [e1]
 simp only [m5]; rw [beq_eq_false_iff_ne.2 h1,beq_eq_false_iff_ne.2 h2]; rfl
theorem D0 {f:bG->bG} (ht:Df f) (l:List bG):lO (l.map f)=lO l:=by
 simp only [lO,List.countP_map]
 apply List.countP_congr
 intro d _
 have:=(ht.Pm d).1
 simp [this]
theorem ko.done (h:ko m) (u:Int):ko (Soft.done m u):=by
 simp only [Soft.done]
 cases hc:fY m&&within u 0 20 with
 | false=>exact h
 | true =>
  simp only [zE]
  have g0:=h.g.bK (y:=m.an.set u.toNat false) (List.length_set.trans h.g.R.dy)
  have g1:Gd 0 [] (flag u (clean u m)):=g0.RN (Ee u)
  have hD:DI u m.ae (flag u (clean u m)):=by
   refine ⟨⟨g1,by show (m.ae.map _).length<=36; rw [List.length_map]; exact h.len,by show m.Next+lO (m.ae.map _)<=99100; rw [D0 (Ee u)]; exact h.TS⟩,fun x hx y hy he=> ?_,fun x hx=> ?_,fun x hx hr=> ?_⟩
   ·obtain ⟨z,hz,rfl⟩:=List.mem_map.1 hy
    rw [(kQ u z).1] at he
    rw [(kQ u z).2.1,p5 h.g.R.ids hz hx he]
   ·have:=(eI (h.g.R.num x hx)).1.2
    show x.Id<m.Next; omega
   ·refine List.mem_map.2 ⟨x,hx,R5 u ?_ ?_⟩<;>rcases hr with q | q | q<;>omega
  have hM:=DI.fold m.ae _ hD h.g.R.ids fun x hx=>dx (h.g.R.num x hx)
  generalize m.ae.foldl (iK u) (flag u (clean u m))=o at hM
  have g2:=(hM.g.RN (A0 o.ae)).bK (y:=o.ae.foldl (yV o.ae) o.an) ((vL _ _ _).trans hM.g.R.dy)
  refine ⟨g2,?_,?_⟩
  ·show (List.map _ _).length<=36; rw [List.length_map]; exact hM.len
  ·show o.Next+(lO (o.ae.map (jy o.ae)):Int)<=99100; rw [D0 (A0 _)]; exact hM.TS
end Go.Soft
namespace Go.Soft
open Go
variable {R:Type} {m:Mem}
theorem ko.sz (h:ko m):ej m:=h.g.T.Fv
theorem GG {n:Nat} (hn:bk<=n) (h:ko m) (p q:ByteArray) (hp:p.size<=cM) (hq:q.size<=cM) (k:Mem->Int->Option R) :
  ry n m p q k=k (jt m p q).1 (jt m p q).2:=by
 have hm:=h.sz
 have T:=h.g.T'
 have vy:=h.g.R.n1
 have QF:=T.di
 obtain ⟨q1,q2,q3⟩:=mI p
 obtain ⟨r1,r2,r3⟩:=mI q
 simp only [ry,jt]
 rw [ee hn m hm,pU hn p hp,pU hn q hq,mY hn m hm]
 cases hc:((!fY m)||(!(ao p).2.2))||(!(ao q).2.2) with
 | true=>rfl
 | false =>
 simp only [Bool.or_eq_false_iff,Bool.not_eq_false'] at hc
 simp only [zF,yI]
 obtain ⟨l,x,e1,e2,e3,hx,hl,hl3⟩:=gX hc.1.2
 rw [jA hn _ hm.d _ q1,qV hn _ hm.d,jA hn _ hm.d _ r1,e3]
 cases cb:((find m.aa (aD m.aa (ao p).1) x).2.2==0)||(aD m.aa (ao q).1==0) with
 | true=>rfl
 | false =>
 simp only [Bool.or_eq_false_iff] at cb
 have F:=(xp T (w:=aD m.aa (ao p).1) hx).resolve_left (fun z=>by rw [z.1] at cb; exact absurd cb.1 (by decide))
 generalize find m.aa (aD m.aa (ao p).1) x=f at *
 have NG:=F.i8
 obtain ⟨i1,i2⟩:=NG
 have hwr:=(lB T.di (ao q).1).resolve_left (by simpa using cb.2)
 simp only [zF]
 rw [bO (x:=f.2.2) (by omega) (by omega),bO (x:=aD m.aa (ao q).1) (by omega) (by omega),bz i1 (by omega),bz hwr.1 (by omega)]
 simp only [Bool.or_true,bc]
 show (bif (!((ai m.aa f.2.2).Kind==1))||(!((ai m.aa (aD m.aa (ao q).1)).Kind==2)) then _ else _)=_
 cases fy:(!((ai m.aa f.2.2).Kind==1))||(!((ai m.aa (aD m.aa (ao q).1)).Kind==2)) with
 | true=>rfl
 | false =>
 simp only [zF]
 rw [jA hn _ hm.d _ hq]
 cases iZ: !(aD m.aa q==0) with
 | true=>rfl
 | false =>
 simp only [zF]
 rw [zY hn m hm.dp hm.d.di _ hwr.1 (by omega) (by rw [T.sd hwr.1 hwr.2]; decide),IM hn m hm _ r1]
 have ez:∀ a b:Bool,(a||(bif !a then b else false))=(a||b):=fun a b=>by cases a<;>rfl
 simp only [ez]
 cases su:waits m (aD m.aa (ao q).1) (ao q).2.1||deep m (ao q).1 with
 | true=>rfl
 | false =>
 simp only [zF,jH]
 have er:(decide ((m.ae.length:Int)<=32)&&decide (m.Next<=99000))=room m:=rfl
 rw [er]
 cases wu: !room m with
 | true=>rfl
 | false =>
 simp only [zF]
 show (bif decide (200<=(ai m.aa f.2.2).Links) then _ else _)=_
 cases It:decide (200<=(ai m.aa f.2.2).Links) with
 | true=>rfl
 | false =>
 simp only [zF,Fh]
 simp only [Bool.or_eq_false_iff,Bool.not_eq_false',beq_eq_false_iff_ne,beq_iff_eq,decide_eq_false_iff_not] at cb fy iZ su wu It
 have z0:=sZ.1 wu
 obtain ⟨w1,w2,w3,w4,w5⟩:=yi h.g hc.2 iZ cb.2 fy.2
 have wq:aW m.aa f.2.2=1:=fy.1
 have hgm:=h.g.Ov F.i8 wq (by show (ai m.aa f.2.2).Links<200; omega)
 have Nx:Gd f.2.2 [] (da m f.2.2):=hgm.bK (y:=bS (aO f.2.2) m.an) ((cR _ _).trans h.g.R.dy)
 have AF:0<=(ai m.aa f.2.2).Links:=by
  have:=T.sU i1 i2
  simp only [bp,zB,ak] at this; exact this.2.1.1
 rw [ee hn m hm,bT (n:=(m.aa.ad.getD (f.2.2-1).toNat az).Links+1) (by show _<=(ai m.aa f.2.2).Links+1; omega) (by show (ai m.aa f.2.2).Links+1<=_; omega),gB,dq,jS]
 have ek:∀ i,I8 i->aW (da m f.2.2).aa i=aW m.aa i:=fun i hi=>by
  show aW (aQ m.aa f.2.2 _) i=_
  rw [dD T.di F.i8 hi]; split
  ·next z=>rw [z]; rfl
  ·rfl
 have ep:∀ i k,I8 i->aY (da m f.2.2).aa i k=aY m.aa i k:=fun i k hi=>by
  show aY (aQ m.aa f.2.2 _) i k=_
  rw [fc T.di F.i8 hi]; split
  ·next z=>rw [z]; rfl
  ·rfl
 have es:∀ q u,cF (da m f.2.2).aa q u=cF m.aa q u:=fun q u=>rfl
 have eo:=oJ ek ep
 have ec:=oO T.di (Nx.T'.di) ek ep rfl
 have Uu:M5 (da m f.2.2) (aD m.aa (ao q).1) (ao q).2.1 f.2.2:=by
  refine ⟨w1,by rw [ek _ w1]; exact fy.2,w2,F.i8,?_,?_,fun z=>by rw [ek _ F.i8,wq] at z; exact absurd z (by decide)⟩
  ·rcases w3 with z | z
   ·exact .inl z
   ·exact .inr (by show lj (da m f.2.2).aa _≠0; rw [show lj (da m f.2.2).aa _=lj m.aa _ from ec _]; exact z)
  ·intro l t; rw [ep _ _ w1,es]; exact w4 l t
 have Wk:∀ k:Int->Mem->Option R,qx n (aD m.aa (ao q).1) (ao q).2.1 f.2.2 (da m f.2.2) k=_:=fun k=>D4 hn _ Nx.T w1.1 w1.2 (by show aW _ _≠0; rw [ek _ w1]; show (ai m.aa _).Kind≠0; rw [fy.2]; decide) w2 i1 i2 k
 rw [aj (bz i1 (by omega))]
 refine (Wk _).trans ?_
 cases Xm:(dR (da m f.2.2) (aD m.aa (ao q).1) (ao q).2.1 f.2.2).2==0 with
 | true=>rfl
 | false =>
 simp only [zF]
 have P:=(qC (m:=da m f.2.2) Nx (by show m.ae.length<=38; omega) (by show m.Next<=99998; omega) Uu).resolve_left (by simpa using Xm)
 generalize dR (da m f.2.2) (aD m.aa (ao q).1) (ao q).2.1 f.2.2=t at *
 have hB:=F.b
 have Xi:f.1≠0:=by obtain ⟨a,b⟩:=hB; omega
 have TJ:nq (da m f.2.2).aa f.1:=(eo _).2 F.own
 have hI:(cF m.aa f.1 f.2.1.toNat).Ino=f.2.2:=by rw [F.sl]
 have hs1:cF t.1.aa f.1 f.2.1.toNat=cF m.aa f.1 f.2.1.toNat:=P.same _ _ hB TJ (by rw [es,hI]; omega)
 obtain ⟨dp,ds,W9,hd2,Nt⟩:=P.dep
 have pr:=(eI (P.g.R.num _ W9)).1
 have agE:1<=t.2:=pr.1
 have adW:t.2<=t.1.Next-1:=pr.2
 exact Bl hn P.g.T hB.1 hB.2 (P.g.g.vV (P.own _ Xi TJ) Xi) F.s.1 F.s.2 (by
  rw [ak]
  show 1<=(cF t.1.aa f.1 f.2.1.toNat).Ino/\(cF t.1.aa f.1 f.2.1.toNat).Ino<=8
  rw [hs1,hI]; exact ⟨i1,i2⟩) (by omega) adW _
theorem rj:∀ i k,I8 i->aY fG i k=0:=by
 intro i k hi
 have hz:∀ kk,([0,0]:List Int).getD kk 0=0:=fun kk=>by
  match kk with
  | 0=>rfl
  | 1=>rfl
  | n+2=>rfl
 have:(ai fG i).ay=[0,0]:=by
  obtain ⟨a,b⟩:=hi
  have:i=1\/i=2\/i=3\/i=4\/i=5\/i=6\/i=7\/i=8:=by omega
  rcases this with rfl | rfl | rfl | rfl | rfl | rfl | rfl | rfl<;>rfl
 simp only [aY,this,hz]
theorem AQ {i:Int} (hi:I8 i):aW fG i=if i=1 then 2 else 0:=by
 obtain ⟨a,b⟩:=hi
 have:i=1\/i=2\/i=3\/i=4\/i=5\/i=6\/i=7\/i=8:=by omega
 rcases this with rfl | rfl | rfl | rfl | rfl | rfl | rfl | rfl<;>rfl
theorem MY:fY (CC fG)=true:=by decide +kernel
theorem ko.new:ko (CC fG):=by
 have hR:=n6.1 MY
 have hO:∀ p,p≠0->¬ nq fG p:=fun p hp ⟨i,k,hi,_,h⟩=>by rw [rj i k hi] at h; exact hp h.symm
 have hg:DG fG:=by
  refine ⟨fun i k j l hi _ _ h=>absurd (rj i k hi) h,fun i k hi h=>absurd (rj i k hi) h,fun i hi h=> ?_,fun i k hi h=>absurd (rj i k hi) h,fun p s hp ho=>absurd ho (hO p (by obtain ⟨a,b⟩:=hp; omega)),
   fun i k s hi _ _ _ h=>absurd (rj i k hi) h,fun j hj h=> ?_,rfl,fun i k l s t hi _ h=>absurd (rj i k hi) h,⟨fun _=>0,rfl,fun i k s hi _ h=>absurd (rj i k hi) h⟩⟩
  ·rw [AQ hi] at h
   by_cases h1:i=1
   ·subst h1; rfl
   ·rw [if_neg h1] at h; exact absurd rfl h
  ·rw [AQ hj] at h
   by_cases h1:j=1
   ·subst h1; rfl
   ·rw [if_neg h1] at h; exact absurd h (by decide)
 have no:∀ {d:bG} {C:Prop},d∈(CC fG).ae->C:=fun hd=>(List.not_mem_nil hd).elim
 refine ⟨⟨hR,fun d hd=>no hd,hg,fun d hd=>no hd,List.Pairwise.nil,fun j hj h1 h=> ?_,fun j hj h=>⟨rfl,by obtain ⟨a,b⟩:=hj; omega⟩,⟨rfl,by decide⟩,fun d hd=>no hd,fun d hd=>no hd,List.Pairwise.nil,fun d hd=>no hd⟩,by decide,by decide⟩
 have h':aW fG j≠0:=h
 rw [AQ hj,if_neg h1] at h'; exact absurd rfl h'
theorem qW {β:Type} {L:Nat->Int->List β->Option R} {N:Nat} {f:Nat->β} {B:Nat} {q:List β->Option R} (hN:N<=1000)
  (hs:∀ m i acc,B<m->i<N->acc.length=i->L (m+1) (i:Int) acc=L m (aA ((i:Int)+1)) (acc++[f i])) (hq:∀ m acc,L (m+1) (N:Int) acc=q acc) :
  ∀ (r j n:Nat) (acc:List β),j+r=N->acc.length=j->r+B<n->L n (j:Int) acc=q (acc++(List.range' j r).map f)
 | 0,j,0,acc,h1,h2,h3=>by omega
 | 0,j,n+1,acc,h1,h2,h3=>by
  have:j=N:=by omega
  subst this; rw [hq]; simp
 | r+1,j,0,acc,h1,h2,h3=>by omega
 | r+1,j,n+1,acc,h1,h2,h3=>by
  rw [hs n j acc (by omega) (by omega) h2,bL (by omega),qW hN hs hq r (j+1) n _ (by omega) (by rw [zK,h2,zL]) (by omega),List.range'_succ,List.map_cons,List.append_assoc]
  rfl
def xJ (d:aa):Device×Bool:=bif lz d then (⟨(List.range' 0 21).map fun u:Nat=>Bf d u⟩,true) else (⟨[]⟩,false)
theorem Gr {n:Nat} (hn:bk<=n) (d:aa) (hd:ja d) (k:Device->Bool->Option R):kN n d k=k (xJ d).1 (xJ d).2:=by
 simp only [kN,xJ]
 rw [yz hn d hd]
 cases h:lz d with
 | false=>rfl
 | true =>
  have T:=(kK.1 h).t
  simp only [zM,zF,zE]
  have:=qW (R:=R) (L:=iQ n d.au.ab d.au.bF d.ad d.ab (fun v=>k ⟨v⟩ true)) (N:=21) (f:=fun u:Nat=>Bf d u) (B:=0) (q:=fun v=>k ⟨v⟩ true) (by omega)
   (fun m i acc _ hi ha=>by
    simp only [iQ]
    rw [show decide ((i:Int)<21)=true by simp; omega,bH]
    refine (AU hn d T i (by omega) (by omega) _).trans ?_
    rw [aj (cm (i:=i) (by omega) (by omega) (by simp))])
   (fun m acc=>by simp [iQ]) 21 0 n [] rfl rfl (aH hn (by omega))
  exact this
def GU:Fs:=⟨CC fG,(xJ fG).1⟩
theorem AM:lz fG=true:=by decide +kernel
theorem Ba:ja fG:=(kK.1 AM).t.sz
theorem Pj {n:Nat} (hn:bk<=n) (k:Fs->Option R):Av n k=k GU:=by
 simp only [Av]
 rw [qP hn,Gr hn _ Ba,qP hn,MV hn _ Ba]; rfl
structure p6 (f:Fs):Prop where
 m:ko f.Mem
 d:eD f.Device=true
theorem p6.new:p6 GU:=⟨ko.new,by decide +kernel⟩
theorem Pn {d:Device} (h:eD d=true):d.cA.length=21:=by
 simp only [eD,zB,beq_iff_eq] at h; exact h.2
theorem E1 {d:Device} (h:eD d=true):d.cA.length<=cM:=by rw [Pn h]; decide
theorem Fm {d:Device} (h:eD d=true) (u:Int) (s:ByteArray):eD (gz d u s).1=true:=by
 simp only [gz]
 cases hc:((!eD d)||(!within u 0 20))||(decide (60<(s.size:Int))) with
 | true=>exact h
 | false =>
  simp only [Bool.or_eq_false_iff,decide_eq_false_iff_not] at hc
  simp only [eD,zB,beq_iff_eq,zF,List.length_set,List.all_eq_true] at h ⊢
  refine ⟨fun x hx=> ?_,h.2⟩
  rcases mem_set hx with q | q
  ·exact h.1 x q
  ·rw [q,DN,Bool.not_eq_true',decide_eq_false_iff_not]; exact hc.2
theorem wS {n:Nat} (hn:bk<=n) (f:Fs) (hm:ej f.Mem) (hd:f.Device.cA.length<=cM) (u:Int) (k:Fs->Bool->Option R):il n f u k=k (dA f u).1 (dA f u).2:=by
 simp only [il,dA]
 rw [FI hn _ hm,RT hn f hm hd]
 cases hc:(!LU f)||(!(fh f.Mem u).2) with
 | true=>simp only [zE]; rw [v9 hn f hm hd]
 | false =>
  simp only [zF]
  rw [EY hn _ hd]
  cases hw: !(gz f.Device u (fh f.Mem u).1).2 with
  | true=>simp only [zE]; rw [v9 hn f hm hd]
  | false =>
   simp only [zF]
   rw [(KU hn _ hm u _).1]
theorem p6.back {f:Fs} (h:p6 f) (u:Int):p6 (dA f u).1:=by
 simp only [dA]
 cases (!LU f)||(!(fh f.Mem u).2) with
 | true=>exact h
 | false =>
  cases !(gz f.Device u (fh f.Mem u).1).2 with
  | true=>exact h
  | false=>exact ⟨h.m.done u,Fm h.d _ _⟩
def gS (l:List Bool):Nat:=(l.takeWhile fun b=> !b).length
def qK:Nat->Fs->Fs
 | 0,f=>f
 | k+1,f=>bif gS f.Mem.an==f.Mem.an.length then f else bif !(dA f (gS f.Mem.an)).2 then f else qK k (dA f (gS f.Mem.an)).1
def flush (f:Fs):Fs:=qK 400 f
theorem p6.qK:∀ (k:Nat) {f:Fs},p6 f->p6 (Soft.qK k f)
 | 0,f,h=>h
 | k+1,f,h=>by
  simp only [Soft.qK]
  cases gS f.Mem.an==f.Mem.an.length with
  | true=>exact h
  | false =>
   cases !(dA f (gS f.Mem.an)).2 with
   | true=>exact h
   | false=>exact p6.qK k (h.back _)
theorem GJ (l:List Bool) (hl:l.length<=2097152) (q:Int->Option R):∀ (s:List Bool) (j m:Nat),s=l.drop j->j<=l.length->s.length<m->jW l q m (j:Int)=q ((j+gS s:Nat):Int)
 | [],j,0,h1,h2,h3=>by cases h3
 | [],j,m+1,h1,h2,h3=>by
  have:l.length<=j:=by have:=congrArg List.length h1; simp at this; omega
  simp only [jW,bh,show decide (j<l.length)=false by simp; omega]
  rfl
 | b::s,j,0,h1,h2,h3=>by cases h3
 | b::s,j,m+1,h1,h2,h3=>by
  have hj:j<l.length:=by have:=congrArg List.length h1; simp at this; omega
  have hd:=cQ false hj
  rw [← h1] at hd; injection hd with hb hs
  simp only [jW,bh,aF,hj,zV,zM,Bool.false_or,bc,Bool.true_and,zC,← hb]
  cases b with
  | true=>rfl
  | false =>
   simp only [zN,zE]
   rw [bL (by omega),GJ l hl q s (j+1) m hs (by omega) (by simp at h3; omega)]
   simp only [gS,List.takeWhile_cons,zN,if_true,zR]
   congr 2; omega
theorem Fb {n:Nat} (hn:bk<=n) (f:Fs) (hm:ej f.Mem) (hd:f.Device.cA.length<=cM) (u:Int):ej (dA f u).1.Mem/\(dA f u).1.Device.cA.length<=cM:=by
 simp only [dA]
 cases (!LU f)||(!(fh f.Mem u).2) with
 | true=>exact ⟨hm,hd⟩
 | false =>
  rw [zF]
  cases !(gz f.Device u (fh f.Mem u).1).2 with
  | true=>exact ⟨hm,hd⟩
  | false =>
   rw [zF]
   refine ⟨?_,?_⟩
   ·rcases (KU (R:=Unit) hn f.Mem hm u fun _=>none).2 with h | h
    ·show ej (done f.Mem u); rw [h]; exact hm
    ·exact h.2.Fv
   ·show (gz f.Device u (fh f.Mem u).1).1.cA.length<=cM
    simp only [gz]
    cases ((!eD f.Device)||(!within u 0 20))||(decide (60<((fh f.Mem u).1.size:Int))) with
    | true=>exact hd
    | false=>rw [zF,List.length_set]; exact hd
theorem Hr {n:Nat} (hn:bk<=n) (K:Fs->Option R):∀ (r:Nat) (i m:Nat) (f:Fs),ej f.Mem->f.Device.cA.length<=cM->i+r=400->r+2097160<m ->
  mc n (fun v eM dz gr jk lW ia sa=>K ⟨⟨⟨⟨eM,dz⟩,gr,jk⟩,lW,ia,v⟩,⟨sa⟩⟩) (fun C4 rM dQ ph ic fV An sq=>K ⟨⟨⟨⟨rM,dQ⟩,ph,ic⟩,fV,An,C4⟩,⟨sq⟩⟩) m (i:Int) f.Mem.Next f.Mem.aa.au.ab f.Mem.aa.au.bF f.Mem.aa.ad f.Mem.aa.ab f.Mem.an f.Mem.ae f.Device.cA=K (qK r f)
 | 0,i,0,f,h,h',h1,h2=>by omega
 | 0,i,m+1,f,h,h',h1,h2=>by
  simp only [mc]
  rw [show decide ((i:Int)<400)=false by simp; omega]
  rfl
 | r+1,i,0,f,h,h',h1,h2=>by omega
 | r+1,i,m+1,f,h,h',h1,h2=>by
  have Tm:f.Mem.an.length<=2097152:=h.dy
  simp only [mc]
  rw [show decide ((i:Int)<400)=true by simp; omega,bH]
  refine (GJ (R:=R) f.Mem.an (by omega) _ f.Mem.an 0 m (by simp) (by omega) (by omega)).trans ?_
  rw [Nat.zero_add,cB]
  simp only [qK]
  cases gS f.Mem.an==f.Mem.an.length with
  | true=>rfl
  | false =>
   simp only [zF]
   refine (wS hn f h h' _ _).trans ?_
   cases !(dA f (gS f.Mem.an)).2 with
   | true=>rfl
   | false =>
    simp only [zF]
    rw [bL (by omega)]
    have hz:=Fb hn f h h' (gS f.Mem.an)
    exact Hr hn K r (i+1) m _ hz.1 hz.2 (by omega) (by omega)
theorem Nc {n:Nat} (hn:bk<=n) (f:Fs) (hm:ej f.Mem) (hd:f.Device.cA.length<=cM) (k:Fs->Option R):pC n f k=k (flush f):=by
 simp only [pC]
 rw [v9 hn f hm hd]
 exact Hr hn k 400 0 n f hm hd rfl (aH hn (by omega))
theorem Pt {n:Nat} (hn:bk<=n) (f:Fs) (h:p6 f) (k:Fs->Option R):pC n f k=k (flush f):=Nc hn f h.m.sz (E1 h.d) k
def ly:List Node->Node->List Node
 | [],x=>[x]
 | y::r,x=>bif Rf x.Path y.Path then y::ly r x else x::y::r
def Aw (l:List Node):List Node:=l.foldl ly []
def u6 (l:List Node):List Node:=(Aw l).reverse
theorem pa:∀ (l:List Node) (x:Node),(ly l x).length=l.length+1
 | [],x=>rfl
 | y::r,x=>by
  simp only [ly]
  cases Rf x.Path y.Path with
  | true=>simp only [zE,zR]; rw [pa r x]
  | false=>rfl
theorem Lr (q:List Node->Option R):∀ (r rest:List Node) (x:Node) (m:Nat),r.length<m->r.length+rest.length<=2097152->g8 q m (r.length:Int) (r.reverse++x::rest)=q ((ly r x).reverse++rest)
 | r,rest,x,0,h,_=>by omega
 | [],rest,x,m+1,h,_=>by
  simp only [g8,List.length_nil]
  simp [ly,bc]
 | y::r,rest,x,m+1,h,hs=>by
  simp only [zR] at h hs
  have hlen:((y::r).reverse++x::rest).length=r.length+1+(rest.length+1):=by simp; omega
  have e0:(y::r).reverse++x::rest=r.reverse++y::x::rest:=by simp
  have g1:((y::r).reverse++x::rest).getD (r.length+1) eK=x:=oZ eK (by simp)
  have g0:((y::r).reverse++x::rest).getD r.length eK=y:=by rw [e0]; exact oZ eK (by simp)
  have s1:((y::r).reverse++x::rest).set (r.length+1) y=r.reverse++y::y::rest:=by
   rw [nT (a:=(y::r).reverse) y (by simp)]; simp
  have s0:(r.reverse++y::y::rest).set r.length x=r.reverse++x::y::rest:=nT x (by simp)
  simp only [g8,zR]
  rw [show aA (((r.length+1:Nat):Int)-1)=((r.length:Nat):Int) by rw [bT (by omega) (by omega)]; omega]
  simp only [zC,g1,g0,s1,s0,aF,hlen]
  rw [show decide ((0:Int)<((r.length+1:Nat):Int))=true by rw [zD]; omega,show decide (r.length<r.length+1+(rest.length+1))=true by rw [zD]; omega,show decide (r.length+1<r.length+1+(rest.length+1))=true by simp]
  simp only [Bool.or_true,bc,Bool.true_and]
  simp only [ly]
  cases hc:Rf x.Path y.Path with
  | false=>simp
  | true =>
   simp only [zE]
   rw [aj (by simp)]
   refine (Lr q r (y::rest) x m (by omega) (by simp only [zR]; omega)).trans ?_
   congr 1; simp
theorem Ls (q:List Node->Option R):∀ (rest r:List Node) (m:Nat),r.length+rest.length+rest.length<m->r.length+rest.length<=2097152->fX q m (r.length:Int) (r.reverse++rest)=q (rest.foldl ly r).reverse
 | rest,r,0,h,_=>by omega
 | [],r,m+1,h,hs=>by
  simp [fX]
 | x::rest,r,m+1,h,hs=>by
  simp only [zR] at h hs
  simp only [fX]
  rw [show decide ((r.length:Int)<((r.reverse++x::rest).length:Int))=true by simp; omega,bH]
  refine (Lr _ r rest x m (by omega) (by omega)).trans ?_
  rw [bL (by omega),List.foldl_cons]
  have:=Ls q rest (ly r x) m (by rw [pa]; omega) (by rw [pa]; omega)
  rw [pa] at this
  exact this
theorem wZ {n:Nat} (hn:bk<=n) (l:List Node) (hl:l.length<=cM) (k:List Node->Option R):jo n l k=k (u6 l):=by
 have xX:l.length<=2097152:=hl
 simp only [jo,List.nil_append]
 rw [aj (bZ (by omega))]
 cases l with
 | nil =>
  have NZ:100000000<=n:=hn
  match n,NZ with
  | n+1,_=>simp [fX,u6,Aw]
 | cons a l =>
  simp only [zR] at xX
  exact Ls k l [a] n (aH hn (by simp only [zR,List.length_nil]; omega)) (by simp only [zR,List.length_nil]; omega)
theorem D3 (l:List Node):(u6 l).length=l.length:=by
 have:∀ (l r:List Node),(l.foldl ly r).length=r.length+l.length:=by
  intro l
  induction l with
  | nil=>intro r; rfl
  | cons x l ih=>intro r; rw [List.foldl_cons,ih,pa,zR]; omega
 simp only [u6,List.length_reverse,Aw,this,List.length_nil,Nat.zero_add]
theorem Cw:∀ (l:List Node) (x y:Node),y∈ly l x↔y=x\/y∈l
 | [],x,y=>by simp [ly]
 | z::r,x,y=>by
  simp only [ly]
  cases Rf x.Path z.Path with
  | true=>simp only [zE,zI,Cw r x y]; constructor<;>rintro (h | h | h)<;>simp [h]
  | false=>simp
theorem Ev (l:List Node) (y:Node):y∈u6 l↔y∈l:=by
 have:∀ (l r:List Node),y∈l.foldl ly r↔y∈r\/y∈l:=by
  intro l
  induction l with
  | nil=>intro r; simp
  | cons x l ih=>intro r; rw [List.foldl_cons,ih,Cw,zI,or_comm (a:=y=x),or_assoc]
 simp only [u6,List.mem_reverse,Aw,this]; simp
def below (p top:ByteArray):Bool:=(p==top)||(decide ((top.size:Int)<(p.size:Int))&&(p.extract 0 (top.size+1)==top++S [47]))
theorem Hy (p top:ByteArray) (hp:p.size<=cM) (ht:top.size<=cM) (k:Bool->Option R):rE p top k=k (below p top):=by
 have yX:p.size<=2097152:=hp
 have J3:top.size<=2097152:=ht
 have hS:(S [47]).size=1:=rfl
 simp only [rE,below]
 rw [bL (by omega),zC,aj,aj]
 ·rw [iP (by omega),Bool.or_true]
 ·cases hc:decide ((top.size:Int)<(p.size:Int)) with
  | false=>rw [Bool.and_false]; rfl
  | true =>
   rw [zD] at hc
   have:qh ((top.size+1:Nat):Int) p.size=true:=by simp only [qh,zB,zD]; omega
   rw [this,Bool.or_true]
def wh (e:Event) (x:Node):Node:=bif (!(x.Path==e.Path))||x.cf then x else bif e.At==0 then ⟨x.Path,x.cf,e.Text,x.OX⟩ else ⟨x.Path,x.cf,x.Head,e.Text⟩
def Bz (e:Event) (x:Node):Node:=bif (x.Path==e.Path)&&(!x.cf) then ⟨e.To,x.cf,x.Head,x.OX⟩ else x
def dv (l:List Node) (e:Event):List Node :=
 bif (e.Kind==1)||(e.Kind==2) then u6 (l++[⟨e.Path,e.Kind==2,eS,eS⟩]) else
 bif e.Kind==3 then l.map (wh e) else
 bif e.Kind==4 then l.filter (fun x=> !below x.Path e.Path) else
 bif e.Kind==5 then u6 (l.map (Bz e)) else l
theorem O8 {n:Nat} (hn:bk<=n) (l:List Node) (hl:l.length<=cM) (e:Event) (q:List Node->Option R):dc e.Path e.At e.Text q n 0 l=q (l.map (wh e)):=by
 have xX:l.length<=2097152:=hl
 refine j9 (R:=R) (L:=dc e.Path e.At e.Text q) (f:=wh e) (B:=0) (q:=q) (fun m a b x _ h=> ?_) (fun m a=> ?_) l [] n (by simp; omega) (aH hn (by omega))
 ·have g:(a++x::b).getD a.length eK=x:=oZ eK rfl
  have s:∀ y,(a++x::b).set a.length y=a++y::b:=fun y=>nT y rfl
  simp only [dc,zC,g,s,aF]
  rw [show decide ((a.length:Int)<((a++x::b).length:Int))=true by simp; omega,show decide (a.length<(a++x::b).length)=true by simp]
  simp only [zE,bc,Bool.or_true,wh]
  cases (!(x.Path==e.Path))||x.cf with
  | true=>rfl
  | false=>cases e.At==0<;>rfl
 ·simp [dc]
theorem Mn {n:Nat} (hn:bk<=n) (l:List Node) (hl:l.length<=cM) (e:Event) (q:List Node->Option R):dh e.Path e.To q n 0 l=q (l.map (Bz e)):=by
 have xX:l.length<=2097152:=hl
 refine j9 (R:=R) (L:=dh e.Path e.To q) (f:=Bz e) (B:=0) (q:=q) (fun m a b x _ h=> ?_) (fun m a=> ?_) l [] n (by simp; omega) (aH hn (by omega))
 ·have g:(a++x::b).getD a.length eK=x:=oZ eK rfl
  have s:∀ y,(a++x::b).set a.length y=a++y::b:=fun y=>nT y rfl
  simp only [dh,zC,g,s,aF]
  rw [show decide ((a.length:Int)<((a++x::b).length:Int))=true by simp; omega,show decide (a.length<(a++x::b).length)=true by simp]
  simp only [zE,bc,Bool.or_true,Bz]
  cases (x.Path==e.Path)&&(!x.cf)<;>rfl
 ·simp [dh]
theorem Me {n:Nat} (hn:bk<=n) (l:List Node) (hl:l.length<=cM) (hp:∀ x∈l,x.Path.size<=cM) (p:ByteArray) (nC:p.size<=cM) (q:List Node->Option R):dj p l q n 0 []=q (l.filter (fun x=> !below x.Path p)):=by
 have xX:l.length<=2097152:=hl
 refine pJ (R:=R) (L:=dj p l q) eK (P:=fun x=> !below x.Path p) (B:=0) (q:=q) (by omega) (fun m i acc _ hi ha=> ?_) (fun m acc=>by simp [dj]) (aH hn (by omega))
 simp only [dj,bh,aF,hi,zV,zE,bc,zC]
 rw [Hy _ _ (hp _ (aU eK hi)) nC]
 cases below (l.getD i eK).Path p with
 | true=>rfl
 | false=>simp only [zN,zE]; rw [aj (cm ha (by omega) (by simp))]
theorem Dd {n:Nat} (hn:bk<=n) (l:List Node) (hl:l.length<=1048576) (hp:∀ x∈l,x.Path.size<=cM) (e:Event) (he:e.Path.size<=cM) (k:List Node->Option R):lA n l e k=k (dv l e):=by
 have Nv:l.length<=cM:=Nat.le_trans hl (by decide)
 have hla:∀ y,(l++[y]).length<=cM:=fun y=>by rw [zK,zL]; exact Nat.le_trans (Nat.succ_le_succ hl) (by decide)
 have Ua:(l.map (Bz e)).length<=cM:=by rw [List.length_map]; exact Nv
 have ok2:∀ y:Node,bg (l++[y])=true:=fun y=>bZ (by rw [zK,zL]; omega)
 simp only [lA,dv,List.nil_append]
 rw [aj (bZ (by omega))]
 simp only [ok2,bc]
 rw [O8 hn l Nv,Me hn l Nv hp _ he,Mn hn l Nv]
 simp only [wZ hn _ (hla _),wZ hn _ Ua]
 cases e.Kind==1<;>cases e.Kind==2<;>cases e.Kind==3<;>cases e.Kind==4<;>cases e.Kind==5<;>rfl
theorem zh (s:ByteArray) (i:Nat):bt s i<256:=by rw [HQ]; exact UInt8.toNat_lt _
def A6 (s:ByteArray) (i:Nat):Bool:=(bt s (i/8)/2 ^ (i % 8)) % 2==1
def mO (s:ByteArray):au×Bool:=bif s.size==3 then (⟨(List.range' 0 16).map (A6 s),(List.range' 16 8).map (A6 s)⟩,true) else (⟨[],[]⟩,false)
theorem zw (i:Nat) (q:Int->Option R):∀ (r k m x:Nat),k+r=i % 8->r<m->x<=1000000->iY (i:Int) q m (x:Int) (k:Int)=q ((x/2 ^ r:Nat):Int)
 | 0,k,0,x,h1,h2,h3=>by omega
 | 0,k,m+1,x,h1,h2,h3=>by
  simp only [iY]
  rw [Int.tmod_eq_emod_of_nonneg (by omega),show decide ((k:Int)<(i:Int) % 8)=false by simp; omega]
  simp
 | r+1,k,0,x,h1,h2,h3=>by omega
 | r+1,k,m+1,x,h1,h2,h3=>by
  simp only [iY]
  rw [Int.tmod_eq_emod_of_nonneg (by omega),show decide ((k:Int)<(i:Int) % 8)=true by rw [zD]; omega,bH,Int.tdiv_eq_ediv_of_nonneg (by omega),show (x:Int)/2=((x/2:Nat):Int) by omega,ei (by omega),bL (by omega),
   zw i q r (k+1) m (x/2) (by omega) (by omega) (by omega),Nat.div_div_eq_div_mul,Nat.pow_succ,Nat.mul_comm]
theorem Sa (x:Nat):(((x:Int).tmod 2)==1)=(x % 2==1):=by
 rw [Int.tmod_eq_emod_of_nonneg (by omega),show (x:Int) % 2=((x % 2:Nat):Int) by omega,show (1:Int)=((1:Nat):Int) from rfl,cB]
theorem u7 (s:ByteArray) (h3:s.size=3) (q:List Bool->List Bool->Option R) (m j:Nat) (hj:j<24) (hm:8<m) (a b:List Bool) (ha:a.length<=1000) (hb:b.length<=1000) :
  dC s q (m+1) (j:Int) a b=bif decide (j<16) then dC s q m ((j+1:Nat):Int) (a++[A6 s j]) b else dC s q m ((j+1:Nat):Int) a (b++[A6 s j]):=by
 have hb8:=zh s (j/8)
 simp only [dC]
 rw [show decide ((j:Int)<24)=true by rw [zD]; omega,bH,Int.tdiv_eq_ediv_of_nonneg (by omega),show (j:Int)/8=((j/8:Nat):Int) by omega,ei (by omega),aF,h3,show decide (j/8<3)=true by rw [zD]; omega,bc,zC,ei (by omega)]
 refine (zw (R:=R) j _ (j % 8) 0 m _ (by omega) (by omega) (by omega)).trans ?_
 rw [Sa,bL (by omega),aj (cm ha (by omega) (by simp)),aj (cm hb (by omega) (by simp)),show decide ((j:Int)<16)=decide (j<16) from decide_eq_decide.2 (by omega)]
 rfl
theorem wJ (s:ByteArray) (h3:s.size=3) (q:List Bool->List Bool->Option R):∀ (r j m:Nat) (a b:List Bool),j+r=24->16<=j->a.length<=1000->b.length<=j->r+10<m->dC s q m (j:Int) a b=q a (b++(List.range' j r).map (A6 s))
 | 0,j,0,a,b,h1,h2,ha,hb,hm=>by omega
 | 0,j,m+1,a,b,h1,h2,ha,hb,hm=>by
  simp only [dC]
  rw [show decide ((j:Int)<24)=false by simp; omega]; simp
 | r+1,j,0,a,b,h1,h2,ha,hb,hm=>by omega
 | r+1,j,m+1,a,b,h1,h2,ha,hb,hm=>by
  rw [u7 s h3 q m j (by omega) (by omega) a b ha (by omega),decide_eq_false (by omega),bn,wJ s h3 q r (j+1) m a _ (by omega) (by omega) ha (by rw [zK,zL]; omega) (by omega),List.range'_succ,List.map_cons,List.append_assoc]
  rfl
theorem wM (s:ByteArray) (h3:s.size=3) (q:List Bool->List Bool->Option R):∀ (r j m:Nat) (a:List Bool),j+r=16->a.length<=j->r+30<m->dC s q m (j:Int) a []=q (a++(List.range' j r).map (A6 s)) ((List.range' 16 8).map (A6 s))
 | 0,j,m,a,h1,ha,hm=>by
  have:j=16:=by omega
  subst this
  rw [wJ s h3 q 8 16 m a [] rfl (by omega) (by omega) (by simp) (by omega)]; simp
 | r+1,j,0,a,h1,ha,hm=>by omega
 | r+1,j,m+1,a,h1,ha,hm=>by
  rw [u7 s h3 q m j (by omega) (by omega) a [] (by omega) (by simp),decide_eq_true (by omega),bH,wM s h3 q r (j+1) m _ (by omega) (by rw [zK,zL]; omega) (by omega),List.range'_succ,List.map_cons,List.append_assoc]
  rfl
theorem HH {n:Nat} (hn:bk<=n) (s:ByteArray) (k:au->Bool->Option R):qN n s k=k (mO s).1 (mO s).2:=by
 simp only [qN,mO]
 rw [show (3:Int)=((3:Nat):Int) from rfl,cB]
 cases h:s.size==3 with
 | false=>rfl
 | true =>
  simp only [zM,zF,zE]
  exact wM s (by simpa using h) _ 16 0 n [] rfl (by simp) (aH hn (by omega))
def sW (s:ByteArray):aV:=⟨bt s 0,bt s 1,[(bt s 2:Int),(bt s 3:Int)]⟩
def gW (s:ByteArray):aV×Bool:=bif (s.size==4)&&bp (sW s) then (sW s,true) else (⟨0,0,[]⟩,false)
theorem ES {n:Nat} (hn:bk<=n) (s:ByteArray) (k:aV->Bool->Option R):py n s k=k (gW s).1 (gW s).2:=by
 simp only [py,gW]
 rw [show (4:Int)=((4:Nat):Int) from rfl,cB]
 cases h:s.size==4 with
 | false=>rfl
 | true =>
  have h4:s.size=4:=by simpa using h
  have b0:=zh s 0
  have b1:=zh s 1
  have b2:=zh s 2
  have b3:=zh s 3
  simp only [zM,zF,Bool.true_and,h4]
  rw [ei (by omega),ei (by omega),ei (by omega),ei (by omega),aj (by rfl),aj (by rfl),aj (by rfl),aj (by rfl),we hn]
  show (bif !bp (sW s) then _ else _)=_
  cases bp (sW s)<;>rfl
def MQ (t:ByteArray) (b:Nat):Nat->Nat->Nat->Nat->Int×Int×Bool
 | 0,_,_,_=>(0,0,false)
 | f+1,x,sc,i=>bif decide (i<t.size) then
   bif decide (bt t i<128) then
    bif decide (1000000000<x+bt t i % 128*sc)|| !(Jy (x+bt t i % 128*sc)==t.extract b (i+1)) then (0,0,false) else (((x+bt t i % 128*sc:Nat):Int),((i+1:Nat):Int),true)
   else MQ t b f (x+bt t i % 128*sc) (sc*128) (i+1)
  else (0,0,false)
def eV (t:ByteArray) (b:Int):Int×Int×Bool:=bif within b 0 t.size then MQ t b.toNat 5 0 1 b.toNat else (0,0,false)
theorem BG {n:Nat} (hn:bk<=n) (t:ByteArray) (ht:t.size<=cM) (b:Nat) (hb:b<=t.size) (q:Int->Int->Bool->Option R):∀ (f x sc i m:Nat),i+f=b+5->b<=i->sc<=128 ^ (5-f)->x<=128 ^ (5-f)->f<m ->
  j6 n t (b:Int) q (q 0 0 false) m (x:Int) (sc:Int) (i:Int)=q (MQ t b f x sc i).1 (MQ t b f x sc i).2.1 (MQ t b f x sc i).2.2
 | 0,x,sc,i,0,h1,h2,h3,h4,h5=>by omega
 | 0,x,sc,i,m+1,h1,h2,h3,h4,h5=>by
  have J3:t.size<=2097152:=ht
  simp only [j6,MQ]
  rw [bT (n:=(b:Int)+5) (by omega) (by omega),show decide ((i:Int)<(b:Int)+5)=false by simp; omega,Bool.and_false]
  rfl
 | f+1,x,sc,i,0,h1,h2,h3,h4,h5=>by omega
 | f+1,x,sc,i,m+1,h1,h2,h3,h4,h5=>by
  have J3:t.size<=2097152:=ht
  have hbt:=zh t i
  have hf:f<=4:=by omega
  have hp:128 ^ (5-(f+1))<=128 ^ 4:=Nat.pow_le_pow_right (by decide) (by omega)
  have hp4:(128:Nat) ^ 4=268435456:=by decide
  have hps:128 ^ (5-f)=128 ^ (5-(f+1))*128:=by rw [← Nat.pow_succ]; congr 1; omega
  have hmul:bt t i % 128*sc<=127*sc:=zP _ (by omega)
  simp only [j6,MQ]
  rw [bT (n:=(b:Int)+5) (by omega) (by omega),show decide ((i:Int)<(b:Int)+5)=true by rw [zD]; omega,Bool.and_true,bh]
  cases hi:decide (i<t.size) with
  | false=>rfl
  | true =>
   simp only [zE,aF,hi,bc,zC]
   have e1:aA (((aA ((bt t i:Nat):Int)).tmod 128)*(sc:Int))=((bt t i % 128*sc:Nat):Int):=by
    rw [ei (by omega),Int.tmod_eq_emod_of_nonneg (by omega),show ((bt t i:Nat):Int) % 128=((bt t i % 128:Nat):Int) by omega,← Int.natCast_mul,ei (by omega)]
   have e2:aA ((x:Int)+((bt t i % 128*sc:Nat):Int))=((x+bt t i % 128*sc:Nat):Int):=by rw [← Int.natCast_add,ei (by omega)]
   simp only [e1,e2]
   rw [bL (by omega),show decide (((bt t i:Nat):Int)<128)=decide (bt t i<128) from decide_eq_decide.2 (by omega)]
   cases hc:decide (bt t i<128) with
   | true =>
    simp only [zE]
    rw [DP hn _ (by omega),show decide ((1000000000:Int)<((x+bt t i % 128*sc:Nat):Int))=decide (1000000000<x+bt t i % 128*sc) from decide_eq_decide.2 (by omega),zC,
     show km (b:Int) ((i+1:Nat):Int) t.size=true by rw [zD] at hi; simp only [km,zB,zD]; omega,Bool.or_true,bc]
    cases decide (1000000000<x+bt t i % 128*sc) with
    | true=>rfl
    | false =>
     simp only [zN,zE,Bool.false_or]
     cases Jy (x+bt t i % 128*sc)==t.extract b (i+1)<;>rfl
   | false =>
    simp only [zF]
    rw [show (sc:Int)*128=((sc*128:Nat):Int) by omega,ei (by omega)]
    exact BG hn t ht b hb q f _ (sc*128) (i+1) m (by omega) (by omega) (by omega) (by omega) (by omega)
theorem IC {n:Nat} (hn:bk<=n) (t:ByteArray) (ht:t.size<=cM) (b:Int) (k:Int->Int->Bool->Option R):uH n t b k=k (eV t b).1 (eV t b).2.1 (eV t b).2.2:=by
 simp only [uH,eV,jh]
 cases h:within b 0 t.size with
 | false=>rfl
 | true =>
  rw [ak] at h
  simp only [zM,zF,zE]
  obtain ⟨c,rfl⟩:=Int.eq_ofNat_of_zero_le h.1
  exact BG hn t ht c (by omega) k 5 0 1 c n (by omega) (by omega) (by decide) (by decide) (aH hn (by omega))
theorem DW (t:ByteArray) (b:Nat):∀ (f x sc i:Nat),(MQ t b f x sc i)=(0,0,false)\/(0<=(MQ t b f x sc i).1/\(MQ t b f x sc i).1<=1000000000/\1<=(MQ t b f x sc i).2.1/\(MQ t b f x sc i).2.1<=t.size)
 | 0,x,sc,i=> .inl rfl
 | f+1,x,sc,i=>by
  simp only [MQ]
  cases hi:decide (i<t.size) with
  | false=>exact .inl rfl
  | true =>
   rw [zD] at hi
   simp only [zE]
   cases decide (bt t i<128) with
   | false=>exact DW t b f _ _ _
   | true =>
    simp only [zE]
    cases hc:decide (1000000000<x+bt t i % 128*sc)|| !(Jy (x+bt t i % 128*sc)==t.extract b (i+1)) with
    | true=>exact .inl rfl
    | false =>
     rw [Bool.or_eq_false_iff,decide_eq_false_iff_not] at hc
     refine .inr ⟨?_,?_,?_,?_⟩<;>simp only [zF]<;>omega
theorem vf (t:ByteArray) (b:Int):(eV t b)=(0,0,false)\/(0<=(eV t b).1/\(eV t b).1<=1000000000/\1<=(eV t b).2.1/\(eV t b).2.1<=t.size):=by
 simp only [eV]
 cases within b 0 t.size with
 | false=>exact .inl rfl
 | true=>exact DW t _ _ _ _ _
def fS (t:ByteArray) (b:Int):ByteArray×Int×Bool :=
 bif ((!(eV t b).2.2)||decide (20000<(eV t b).1))||decide ((t.size:Int)-(eV t b).2.1<(eV t b).1) then (eS,0,false) else
 (t.extract (eV t b).2.1.toNat ((eV t b).2.1+(eV t b).1).toNat,(eV t b).2.1+(eV t b).1,true)
theorem EV {n:Nat} (hn:bk<=n) (t:ByteArray) (ht:t.size<=cM) (b:Int) (k:ByteArray->Int->Bool->Option R):pG n t b k=k (fS t b).1 (fS t b).2.1 (fS t b).2.2:=by
 have J3:t.size<=2097152:=ht
 simp only [pG,fS]
 rw [IC hn t ht]
 rcases vf t b with h | ⟨h1,h2,h3,h4⟩
 ·rw [h]; rfl
 ·generalize eV t b=r at *
  rw [bT (n:=(t.size:Int)-r.2.1) (by omega) (by omega),bT (n:=r.2.1+r.1) (by omega) (by omega)]
  cases hc:((!r.2.2)||decide (20000<r.1))||decide ((t.size:Int)-r.2.1<r.1) with
  | true=>rfl
  | false =>
   simp only [Bool.or_eq_false_iff,decide_eq_false_iff_not] at hc
   simp only [zF]
   rw [aj (by simp only [km,zB,zD]; omega)]
theorem Ah (t:ByteArray) (b:Int):(fS t b)=(eS,0,false)\/((fS t b).1.size<=t.size/\1<=(fS t b).2.1/\(fS t b).2.1<=t.size):=by
 simp only [fS]
 rcases vf t b with h | ⟨h1,h2,h3,h4⟩
 ·rw [h]; exact .inl rfl
 ·generalize eV t b=r at *
  cases hc:((!r.2.2)||decide (20000<r.1))||decide ((t.size:Int)-r.2.1<r.1) with
  | true=>exact .inl rfl
  | false =>
   simp only [Bool.or_eq_false_iff,decide_eq_false_iff_not] at hc
   refine .inr ⟨?_,?_,?_⟩<;>simp only [zF]
   ·rw [ByteArray.size_extract]; omega
   ·omega
   ·omega
def T2 (s:ByteArray):Nat->Int->List Slot->Option (List Slot)
 | 0,_,acc=>some acc
 | f+1,at',acc=>bif decide (at'<(s.size:Int)) then
   bif (fS s (at'+1)).2.2 then T2 s f (fS s (at'+1)).2.1 (acc++[⟨(fS s (at'+1)).1,bt s at'.toNat⟩]) else none
  else some acc
def l9 (b:Block) (s:ByteArray):Block×Bool:=bif (!bA b)|| !(oe b==s) then (⟨false,[],eS⟩,false) else (b,true)
def kY (s:ByteArray):Block×Bool:=bif s==eS then (⟨false,[],eS⟩,false) else
 bif bt s 0==100 then (match T2 s 4 1 [] with | none=>(⟨false,[],eS⟩,false) | some l=>l9 ⟨true,l,eS⟩ s) else l9 ⟨false,[],s.extract 1 s.size⟩ s
theorem wL {n:Nat} (hn:bk<=n) (s:ByteArray) (hs:s.size<=cM) (q0:Bool->Bool->ByteArray->List Slot->Option R) (q1:List Slot->Option R):∀ (f i m:Nat) (a:Int) (acc:List Slot),i+f=4->f<m->1<=a->acc.length=i->(∀ x∈acc,x.Name.size<=s.size) ->
  gZ n s q0 q1 m a (i:Int) acc=(match T2 s f a acc with | none=>q0 false false eS [] | some l=>q1 l)/\∀ l,T2 s f a acc=some l->l.length<=4/\∀ x∈l,x.Name.size<=s.size
 | f,i,0,a,acc,h1,h2,h3,h4,h5=>by omega
 | 0,i,m+1,a,acc,h1,h2,h3,h4,h5=>by
  simp only [gZ,T2]
  rw [show decide ((i:Int)<4)=false by simp; omega,Bool.false_and]
  exact ⟨rfl,fun l hl=>by cases hl; exact ⟨by omega,h5⟩⟩
 | f+1,i,m+1,a,acc,h1,h2,h3,h4,h5=>by
  have CX:s.size<=2097152:=hs
  simp only [gZ,T2]
  rw [show decide ((i:Int)<4)=true by rw [zD]; omega,Bool.true_and]
  cases hc:decide (a<(s.size:Int)) with
  | false=>exact ⟨rfl,fun l hl=>by cases hl; exact ⟨by omega,h5⟩⟩
  | true =>
   rw [zD] at hc
   have hb:=zh s a.toNat
   simp only [zE]
   rw [bT (n:=a+1) (by omega) (by omega),EV hn s hs]
   rcases Ah s (a+1) with h | ⟨r1,r2,r3⟩
   ·rw [h]; exact ⟨rfl,fun l hl=>by cases hl⟩
   ·generalize fS s (a+1)=r at *
    cases hr:r.2.2 with
    | false=>exact ⟨rfl,fun l hl=>by cases hl⟩
    | true =>
     simp only [zM,zF,zE]
     rw [aj (by simp only [aZ,zB,zD]; omega),ei (n:=bt s a.toNat) (by omega),aj (cm (i:=i) (by omega) (by omega) (by simp)),bL (by omega)]
     exact wL hn s hs q0 q1 f (i+1) m r.2.1 _ (by omega) (by omega) r2 (by rw [zK,h4,zL]) (fun x hx=>by
      rcases zH.1 hx with hx | hx
      ·exact h5 x hx
      ·rw [zS] at hx; subst hx; exact r1)
theorem FR {n:Nat} (hn:bk<=n) (s:ByteArray) (hs:s.size<=cM) (k:Block->Bool->Option R):pX n s k=k (kY s).1 (kY s).2:=by
 have CX:s.size<=2097152:=hs
 simp only [pX,kY]
 cases h0:s==eS with
 | true=>rfl
 | false =>
  have hp:0<s.size:=Nat.pos_of_ne_zero fun z=>by
   rw [beq_eq_false_iff_ne] at h0
   apply h0
   apply ByteArray.ext
   exact Array.eq_empty_of_size_eq_zero z
  simp only [zF]
  rw [aj (by simp only [qh,zB,zD]; omega),aj (by simp only [aZ,zB,zD]; omega),show (100:Int)=((100:Nat):Int) from rfl,cB]
  have back:∀ (b:Block),ur b->∀ k:Block->Bool->Option R,(ig n b fun r cS=>bif (!cS)||(!(r==s)) then k ⟨false,[],eS⟩ false else k b true)=k (l9 b s).1 (l9 b s).2:=fun b hb k=>by
   rw [wE hn b hb]
   simp only [l9]
   cases (!bA b)||(!(oe b==s))<;>rfl
  cases bt s 0==100 with
  | true =>
   simp only [zE]
   have:=wL (R:=R) hn s hs (fun x v eM dz=>k ⟨v,dz,eM⟩ x) (fun gr=>ig n ⟨true,gr,eS⟩ fun r cS=>bif (!cS)||(!(r==s)) then k ⟨false,[],eS⟩ false else k ⟨true,gr,eS⟩ true) 4 0 n 1 [] rfl (aH hn (by omega)) (by decide) rfl (fun x hx=>by cases hx)
   refine this.1.trans ?_
   cases hl:T2 s 4 1 [] with
   | none=>rfl
   | some l =>
    have h2:=this.2 l hl
    exact back _ ⟨Nat.le_trans h2.1 (by decide),by show eS.size<=cM; decide,fun x hx=>Nat.le_trans (h2.2 x hx) hs⟩ k
  | false =>
   simp only [zF]
   exact back _ ⟨Nat.zero_le _,by show (s.extract 1 s.size).size<=cM; rw [ByteArray.size_extract]; exact Nat.le_trans (by omega) hs,fun x hx=>by cases hx⟩ k
theorem EZ (s:ByteArray):bA (kY s).1=true:=by
 have h0:bA ⟨false,[],eS⟩=true:=rfl
 have hb:∀ b,bA (l9 b s).1=true:=fun b=>by
  simp only [l9]
  cases h:bA b with
  | false=>exact h0
  | true=>cases oe b==s<;>first | exact h0 | exact h
 simp only [kY]
 cases s==eS with
 | true=>exact h0
 | false =>
  cases bt s 0==100 with
  | true =>
   simp only [zE,zF]
   cases T2 s 4 1 [] with
   | none=>exact h0
   | some l=>exact hb _
  | false=>exact hb _
def uy (s:ByteArray) (j:Nat):aV:=bif s.size==8 then (bif (gW (s.extract (4*j) (4*j+4))).2 then (gW (s.extract (4*j) (4*j+4))).1 else ba 0) else ba 0
def jr (d:Device) (u:Nat):ByteArray:=d.cA.getD u eS
def Cl (d:Device):au:=bif (mO (jr d 0)).2 then (mO (jr d 0)).1 else ⟨List.replicate 16 true,List.replicate 8 true⟩
def mS (d:Device):aa:=⟨Cl d,(List.range' 0 8).map fun i=>uy (jr d (1+i/2)) (i % 2),(List.range' 0 16).map fun i=>(kY (jr d (5+i))).1⟩
def E4 (d:Device):aa×Bool:=bif eD d then (mS d,true) else (⟨⟨[],[]⟩,[],[]⟩,false)
theorem FQ (s:ByteArray) (h:(gW s).2=true):bp (gW s).1=true:=by
 revert h
 simp only [gW]
 cases hc:(s.size==4)&&bp (sW s) with
 | false=>intro h; cases h
 | true=>intro _; rw [zB] at hc; exact hc.2
theorem JC (s:ByteArray) (j:Nat):bp (uy s j)=true:=by
 simp only [uy]
 cases s.size==8 with
 | false=>rfl
 | true =>
  simp only [zE]
  cases h:(gW (s.extract (4*j) (4*j+4))).2 with
  | false=>rfl
  | true=>exact FQ _ h
theorem JG (d:Device):(Cl d).ab.length=16/\(Cl d).bF.length=8:=by
 simp only [Cl,mO]
 cases (jr d 0).size==3 with
 | false=>exact ⟨rfl,rfl⟩
 | true=>exact ⟨by simp,by simp⟩
theorem lH.of (d:Device):lH (mS d):=by
 have:=JG d
 refine ⟨this.1,this.2,by simp [mS],by simp [mS],fun x hx=> ?_,fun b hb=> ?_⟩
 ·simp only [mS,List.mem_map] at hx
  obtain ⟨i,_,rfl⟩:=hx
  exact JC _ _
 ·simp only [mS,List.mem_map] at hb
  obtain ⟨i,_,rfl⟩:=hb
  exact EZ _
theorem Sy (q:List Bool->Option R):∀ (b a:List Bool) (n:Nat),a.length+b.length<=1000->b.length<n->jE q n (a.length:Int) (a++b)=q (a++b.map fun _=>true):=fun b a n h1 h2 =>
 j9 (R:=R) (L:=jE q) (f:=fun _=>true) (B:=0) (q:=q) (fun m a b x _ h=>by
  have s:(a++x::b).set a.length true=a++true::b:=nT true rfl
  simp only [jE,zC,s,aF]
  rw [show decide ((a.length:Int)<((a++x::b).length:Int))=true by simp; omega,show decide (a.length<(a++x::b).length)=true by simp]
  rfl) (fun m a=>by simp [jE]) b a n (by omega) (by omega)
theorem N2 (q:List Bool->Option R):∀ (b a:List Bool) (n:Nat),a.length+b.length<=1000->b.length<n->iD q n (a.length:Int) (a++b)=q (a++b.map fun _=>true):=fun b a n h1 h2 =>
 j9 (R:=R) (L:=iD q) (f:=fun _=>true) (B:=0) (q:=q) (fun m a b x _ h=>by
  have s:(a++x::b).set a.length true=a++true::b:=nT true rfl
  simp only [iD,zC,s,aF]
  rw [show decide ((a.length:Int)<((a++x::b).length:Int))=true by simp; omega,show decide (a.length<(a++x::b).length)=true by simp]
  rfl) (fun m a=>by simp [iD]) b a n (by omega) (by omega)
theorem IP {n:Nat} (hn:bk<=n) (d:Device) (h:d.cA.length=21) (q:List aV->Option R):eX n d.cA q n 0 []=q ((List.range' 0 8).map fun i=>uy (jr d (1+i/2)) (i % 2)):=by
 refine qW (R:=R) (L:=eX n d.cA q) (N:=8) (f:=fun i=>uy (jr d (1+i/2)) (i % 2)) (B:=0) (q:=q) (by omega) (fun m i acc _ hi ha=> ?_) (fun m acc=>by simp [eX]) 8 0 n [] rfl rfl (aH hn (by omega))
 simp only [eX]
 rw [show decide ((i:Int)<8)=true by rw [zD]; omega,bH,Int.tdiv_eq_ediv_of_nonneg (by omega),Int.tmod_eq_emod_of_nonneg (by omega),show (i:Int)/2=((i/2:Nat):Int) by omega,show (i:Int) % 2=((i % 2:Nat):Int) by omega,
  ei (n:=i/2) (by omega),show (1:Int)+((i/2:Nat):Int)=((1+i/2:Nat):Int) by omega,ei (n:=1+i/2) (by omega),show (4:Int)*((i % 2:Nat):Int)=((4*(i % 2):Nat):Int) by omega,ei (n:=4*(i % 2)) (by omega),
  show ((4*(i % 2):Nat):Int)+4=((4*(i % 2)+4:Nat):Int) by omega,ei (n:=4*(i % 2)+4) (by omega),aF,h,show decide (1+i/2<21)=true by rw [zD]; omega,bc,jz]
 simp only [zC]
 rw [show (8:Int)=((8:Nat):Int) from rfl,cB]
 have Wf:∀ y:aV,bg (acc++[y])=true:=fun y=>cm (i:=i) (by omega) (by omega) (by simp)
 show (bif (jr d (1+i/2)).size==8 then _ else _)=_
 simp only [uy]
 cases h8:(jr d (1+i/2)).size==8 with
 | false=>simp only [zF]; rw [aj (Wf _)]
 | true =>
  have Y0:(jr d (1+i/2)).size=8:=by simpa using h8
  simp only [zE]
  rw [aj (by show km _ _ (jr d (1+i/2)).size=true; rw [Y0]; simp only [km,zB,zD]; omega),ES hn]
  show (bif (gW ((jr d (1+i/2)).extract (4*(i % 2)) (4*(i % 2)+4))).2 then _ else _)=_
  cases (gW ((jr d (1+i/2)).extract (4*(i % 2)) (4*(i % 2)+4))).2 with
  | true=>simp only [zE]; rw [aj (Wf _)]; rfl
  | false=>simp only [zF]; rw [aj (Wf _)]
theorem II {n:Nat} (hn:bk<=n) (d:Device) (h:d.cA.length=21) (hs:∀ s∈d.cA,s.size<=cM) (q:List Block->Option R):gE n d.cA q n 0 []=q ((List.range' 0 16).map fun i=>(kY (jr d (5+i))).1):=by
 refine qW (R:=R) (L:=gE n d.cA q) (N:=16) (f:=fun i=>(kY (jr d (5+i))).1) (B:=0) (q:=q) (by omega) (fun m i acc _ hi ha=> ?_) (fun m acc=>by simp [gE]) 16 0 n [] rfl rfl (aH hn (by omega))
 simp only [gE]
 rw [show decide ((i:Int)<16)=true by rw [zD]; omega,bH,show (5:Int)+(i:Int)=((5+i:Nat):Int) by omega,ei (n:=5+i) (by omega),aF,h,show decide (5+i<21)=true by rw [zD]; omega,bc,zC]
 refine (FR hn _ (hs _ (aU eS (by omega))) _).trans ?_
 rw [aj (cm (i:=i) (by omega) (by omega) (by simp))]
 rfl
theorem Oc {d:Device} (h:eD d=true):∀ s∈d.cA,s.size<=60:=fun s hs=>by
 simp only [eD,zB,List.all_eq_true] at h
 have:=h.1 s hs
 simp only [DN,Bool.not_eq_true',decide_eq_false_iff_not] at this
 omega
theorem MW {n:Nat} (hn:bk<=n) (d:Device) (hd:d.cA.length<=cM) (k:aa->Bool->Option R):oX n d k=k (E4 d).1 (E4 d).2:=by
 simp only [oX,E4]
 rw [sS hn d hd]
 cases h:eD d with
 | false=>rfl
 | true =>
  have QB:=Pn h
  have mH:∀ s∈d.cA,s.size<=cM:=fun s hs=>Nat.le_trans (Oc h s hs) (by decide)
  simp only [zM,zF,zE]
  rw [aj (by rw [QB]; rfl),HH hn]
  have l17:=fun q=>IP (R:=R) hn d QB q
  have l27:=fun q=>II (R:=R) hn d QB mH q
  show (bif !(mO (jr d 0)).2 then _ else _)=_
  simp only [mS,Cl]
  cases (mO (jr d 0)).2 with
  | true =>
   simp only [zM,zF,zE]
   rw [l17,l27]; rfl
  | false =>
   simp only [zN,zF,zE,mb]
   rw [aj (by rfl)]
   refine (Sy _ (List.replicate 16 false) [] n (by decide) (aH hn (by decide))).trans ?_
   refine (N2 _ ((List.replicate 8 false).set 0 true) [] n (by decide) (aH hn (by decide))).trans ?_
   rw [l17,l27]; rfl
def lC (l:List Node):List ByteArray:=eS::(l.filter (·.cf)).map (·.Path)
def fJ (l:List Node):List ByteArray:=(l.filter fun x=> !x.cf).map (·.Path)
def v5 (l:List Node) (p:ByteArray):Prop:=∃ d∈lC l,∃ x∈qb,p=(d++S [47])++x
def IK:List ByteArray:=[eS,S [120],S [104,101,108,108,111],S [48,49,50,51,52,53,54,55,56,57,97,98,99,100,101,102]]
inductive lu (l:List Node):Event->Prop
 | make (k:Int) (p:ByteArray):k=1\/k=2->v5 l p->lu l ⟨k,p,eS,0,eS⟩
 | write (p:ByteArray) (a:Int) (t:ByteArray):(p∈fJ l\/p=S [47,97])->a=0\/a=1->t∈IK->lu l ⟨3,p,eS,a,t⟩
 | remove (p:ByteArray):(p∈l.map (·.Path)\/p=S [47,98])->lu l ⟨4,p,eS,0,eS⟩
 | move (p q:ByteArray):(p∈fJ l\/p=S [47,97])->v5 l q->lu l ⟨5,p,q,0,eS⟩
 | back (u:Int):0<=u->u<=20->lu l ⟨6,eS,eS,u,eS⟩
 | flush:lu l ⟨7,eS,eS,0,eS⟩
theorem RV {n:Nat} (hn:bk<=n) (l:List Node) (hl:l.length<=1048576) (q:List ByteArray->List ByteArray->List ByteArray->Option R):fI l q n 0 [] [eS] []=q (fJ l) (lC l) (l.map (·.Path)):=by
 have key:∀ (r i m:Nat) (a b c:List ByteArray),i+r=l.length->r<m->a.length<=i->b.length<=i+1->c.length<=i ->
   fI l q m (i:Int) a b c=q (a++((l.drop i).filter fun x=> !x.cf).map (·.Path)) (b++((l.drop i).filter (·.cf)).map (·.Path)) (c++(l.drop i).map (·.Path)):=by
  intro r
  induction r with
  | zero =>
   intro i m a b c h1 h2 h3 h4 h5
   cases m with
   | zero=>omega
   | succ m =>
    have:i=l.length:=by omega
    subst this
    simp [fI]
  | succ r ih =>
   intro i m a b c h1 h2 h3 h4 h5
   cases m with
   | zero=>omega
   | succ m =>
    have hi:i<l.length:=by omega
    simp only [fI,bh,aF,hi,zV,zE,bc,zC]
    rw [aj (cm (i:=i) h5 (by omega) (by simp)),bL (by omega),cQ eK hi]
    generalize l.getD i eK=el
    cases hd:el.cf with
    | true =>
     simp only [zE]
     rw [aj (cm (i:=i+1) h4 (by omega) (by simp)),ih (i+1) m _ _ _ (by omega) (by omega) (by omega) (by rw [zK,zL]; omega) (by rw [zK,zL]; omega)]
     simp [List.filter_cons,hd]
    | false =>
     simp only [zF]
     rw [aj (cm (i:=i) h3 (by omega) (by simp)),ih (i+1) m _ _ _ (by omega) (by omega) (by rw [zK,zL]; omega) (by omega) (by rw [zK,zL]; omega)]
     simp [List.filter_cons,hd]
 exact key l.length 0 n [] [eS] [] (by omega) (aH hn (by omega)) (by simp) (by simp) (by simp)
theorem OI {n:Nat} (hn:bk<=n) (y:List Bool) (hy:y.length=21):∃ l:List Int,l.length<=21/\(∀ u∈l,0<=u/\u<=20)/\∀ q:List Int->Option R,de y q n 0 []=q l:=by
 have key:∀ (r i:Nat) (a:List Int),i+r=21->a.length<=i->(∀ u∈a,0<=u/\u<=20)->∃ l:List Int,l.length<=21/\(∀ u∈l,0<=u/\u<=20)/\∀ (m:Nat) (q:List Int->Option R),r<m->de y q m (i:Int) a=q l:=by
  intro r
  induction r with
  | zero =>
   intro i a h1 h2 h3
   refine ⟨a,by omega,h3,fun m q hm=> ?_⟩
   cases m with
   | zero=>omega
   | succ m=>simp only [de,bh,hy]; rw [show decide (i<21)=false by simp; omega]; rfl
  | succ r ih =>
   intro i a h1 h2 h3
   have hi:i<y.length:=by omega
   cases hb:y.getD i false with
   | true =>
    obtain ⟨l,l1,l2,l3⟩:=ih (i+1) (a++[(i:Int)]) (by omega) (by rw [zK,zL]; omega) (fun u hu=>by
     rcases zH.1 hu with hu | hu
     ·exact h3 u hu
     ·rw [zS] at hu; subst hu; omega)
    refine ⟨l,l1,l2,fun m q hm=> ?_⟩
    cases m with
    | zero=>omega
    | succ m =>
     simp only [de,bh,aF,hi,zV,zE,bc,zC,hb]
     rw [aj (cm (i:=i) h2 (by omega) (by simp)),bL (by omega)]
     exact l3 m q (by omega)
   | false =>
    obtain ⟨l,l1,l2,l3⟩:=ih (i+1) a (by omega) (by omega) h3
    refine ⟨l,l1,l2,fun m q hm=> ?_⟩
    cases m with
    | zero=>omega
    | succ m =>
     simp only [de,bh,aF,hi,zV,zE,zF,bc,zC,hb]
     rw [bL (by omega)]
     exact l3 m q (by omega)
 obtain ⟨l,l1,l2,l3⟩:=key 21 0 [] rfl (by simp) (fun u hu=>by cases hu)
 exact ⟨l,l1,l2,fun q=>l3 n q (aH hn (by omega))⟩
theorem td {x:ByteArray} (h:x∈qb):x.size<=2:=by
 simp only [qb,zI,List.not_mem_nil,or_false] at h
 rcases h with rfl | rfl | rfl | rfl | rfl<;>decide
theorem Mv {n:Nat} (hn:bk<=n) (w:World) (hl:w.Model.length<=1048576) (hp:∀ x∈w.Model,x.Path.size<=1000) (hy:w.Fs.Mem.an.length=21) (c:eF) (hc:ux c):∃ e c',Cn c c'/\lu w.Model e/\∀ k:Event->eF->Option R,eE n w c k=k e c':=by
 obtain ⟨r,c1,hr,cb,e1⟩:=fD (R:=R) [1,1,1,2,2,3,3,3,4,4,5,5,6,6,6,6,6,6,6,7] (by decide) (by decide) c hc
 have CP:(lC w.Model).length<=1048577:=by simp only [lC,zR,List.length_map]; have:=List.length_filter_le (·.cf) w.Model; omega
 have AJ:(fJ w.Model).length<=1048576:=by simp only [fJ,List.length_map]; have:=List.length_filter_le (fun x=> !x.cf) w.Model; omega
 have W9:0<(lC w.Model).length:=by simp [lC]
 obtain ⟨a,c2,a1,a2,fy,e2⟩:=bj (R:=R) ((lC w.Model).length:Int) (by omega) (by omega) c1 cb.1
 obtain ⟨x,c3,hx,iZ,e3⟩:=Eo (R:=R) c2 fy.1
 have ZU:=aU eS (show a.toNat<(lC w.Model).length by omega)
 generalize J1:(lC w.Model).getD a.toNat eS=d at ZU
 have hF:v5 w.Model ((d++S [47])++x):=⟨d,ZU,x,hx,rfl⟩
 have hds:d.size<=1000:=by
  simp only [lC,zI,List.mem_map,List.mem_filter] at ZU
  rcases ZU with rfl | ⟨z,hz,rfl⟩
  ·decide
  ·exact hp z hz.1
 have hS:(S [47]).size=1:=rfl
 have Ub:=td hx
 have ok1:lY d (S [47])=true:=iP (by omega)
 have ok2:lY (d++S [47]) x=true:=iP (by rw [ByteArray.size_append]; omega)
 have b2:=cb.tr fy
 have b3:=b2.tr iZ
 have inA:aZ a (lC w.Model).length=true:=by simp only [aZ,zB,zD]; omega
 have start:∀ (r':Int) (K:List ByteArray->List ByteArray->List ByteArray->Option R),fI w.Model K n 0 [] [eS] []=K (fJ w.Model) (lC w.Model) (w.Model.map (·.Path)):=fun _ K=>RV hn w.Model hl K
 have cC:r=1\/r=2\/r=3\/r=4\/r=5\/r=6\/r=7:=by
  simp only [zI,List.not_mem_nil,or_false] at hr; omega
 rcases cC with rfl | rfl | rfl | rfl | rfl | rfl | rfl
 ·refine ⟨_,c3,b3,.make 1 _ (.inl rfl) hF,fun k=> ?_⟩
  simp only [eE]
  rw [e1,start 0,cb.mk',e2,aj inA,J1,aj ok1,b2.mk',e3,aj ok2,b3.mk']; rfl
 ·refine ⟨_,c3,b3,.make 2 _ (.inr rfl) hF,fun k=> ?_⟩
  simp only [eE]
  rw [e1,start 0,cb.mk',e2,aj inA,J1,aj ok1,b2.mk',e3,aj ok2,b3.mk']; rfl
 ·by_cases hf:0<(fJ w.Model).length
  ·obtain ⟨f,c4,f1,f2,su,e4⟩:=bj (R:=R) ((fJ w.Model).length:Int) (by omega) (by omega) c3 iZ.1
   have b4:=b3.tr su
   obtain ⟨t,c5,ht,wu,e5⟩:=uz (R:=R) IK (by decide) (by decide) c4 su.1
   have b5:=b4.tr wu
   obtain ⟨z,c6,z1,z2,It,e6⟩:=bj (R:=R) 2 (by decide) (by decide) c5 wu.1
   have b6:=b5.tr It
   refine ⟨_,c6,b6,.write ((fJ w.Model).getD f.toNat eS) z t (.inl (aU eS (by omega))) (by omega) ht,fun k=> ?_⟩
   simp only [eE]
   rw [e1,start 0,cb.mk',e2,aj inA,J1,aj ok1,b2.mk',e3,aj ok2,b3.mk']
   simp only [show ((3:Int)==1)=false from rfl,show ((3:Int)==2)=false from rfl,show ((3:Int)==3)=true from rfl,show ((3:Int)==5)=false from rfl,zF,zE]
   rw [decide_eq_true (show (0:Int)<((fJ w.Model).length:Int) by omega),bH,e4,aj (by simp only [aZ,zB,zD]; omega),b4.mk']
   refine (e5 _).trans ?_
   rw [b5.mk',e6,b6.mk']
  ·obtain ⟨t,c5,ht,wu,e5⟩:=uz (R:=R) IK (by decide) (by decide) c3 iZ.1
   have b5:=b3.tr wu
   obtain ⟨z,c6,z1,z2,It,e6⟩:=bj (R:=R) 2 (by decide) (by decide) c5 wu.1
   have b6:=b5.tr It
   refine ⟨_,c6,b6,.write (S [47,97]) z t (.inr rfl) (by omega) ht,fun k=> ?_⟩
   simp only [eE]
   rw [e1,start 0,cb.mk',e2,aj inA,J1,aj ok1,b2.mk',e3,aj ok2,b3.mk']
   simp only [show ((3:Int)==1)=false from rfl,show ((3:Int)==2)=false from rfl,show ((3:Int)==3)=true from rfl,show ((3:Int)==5)=false from rfl,zF,zE]
   rw [decide_eq_false (show ¬ (0:Int)<((fJ w.Model).length:Int) by omega),bn]
   refine (e5 _).trans ?_
   rw [b5.mk',e6,b6.mk']
 ·by_cases hf:0<w.Model.length
  ·have Ua:(w.Model.map (·.Path)).length=w.Model.length:=List.length_map _
   obtain ⟨f,c4,f1,f2,su,e4⟩:=bj (R:=R) ((w.Model.map (·.Path)).length:Int) (by omega) (by omega) c3 iZ.1
   have b4:=b3.tr su
   refine ⟨_,c4,b4,.remove ((w.Model.map (·.Path)).getD f.toNat eS) (.inl (aU eS (by omega))),fun k=> ?_⟩
   simp only [eE]
   rw [e1,start 0,cb.mk',e2,aj inA,J1,aj ok1,b2.mk',e3,aj ok2,b3.mk']
   simp only [show ((4:Int)==1)=false from rfl,show ((4:Int)==2)=false from rfl,show ((4:Int)==3)=false from rfl,show ((4:Int)==4)=true from rfl,show ((4:Int)==5)=false from rfl,zF,zE]
   rw [decide_eq_true (show (0:Int)<((w.Model.map (·.Path)).length:Int) by omega),bH,e4,aj (by simp only [aZ,zB,zD]; omega),b4.mk']
  ·refine ⟨_,c3,b3,.remove (S [47,98]) (.inr rfl),fun k=> ?_⟩
   simp only [eE]
   rw [e1,start 0,cb.mk',e2,aj inA,J1,aj ok1,b2.mk',e3,aj ok2,b3.mk']
   simp only [show ((4:Int)==1)=false from rfl,show ((4:Int)==2)=false from rfl,show ((4:Int)==3)=false from rfl,show ((4:Int)==4)=true from rfl,show ((4:Int)==5)=false from rfl,zF,zE]
   rw [decide_eq_false (show ¬ (0:Int)<((w.Model.map (·.Path)).length:Int) by rw [List.length_map]; omega),bn]
 ·by_cases hf:0<(fJ w.Model).length
  ·obtain ⟨f,c4,f1,f2,su,e4⟩:=bj (R:=R) ((fJ w.Model).length:Int) (by omega) (by omega) c3 iZ.1
   have b4:=b3.tr su
   refine ⟨_,c4,b4,.move ((fJ w.Model).getD f.toNat eS) _ (.inl (aU eS (by omega))) hF,fun k=> ?_⟩
   simp only [eE]
   rw [e1,start 0,cb.mk',e2,aj inA,J1,aj ok1,b2.mk',e3,aj ok2,b3.mk']
   simp only [show ((5:Int)==1)=false from rfl,show ((5:Int)==2)=false from rfl,show ((5:Int)==3)=false from rfl,show ((5:Int)==5)=true from rfl,zF,zE]
   rw [decide_eq_true (show (0:Int)<((fJ w.Model).length:Int) by omega),bH,e4,aj (by simp only [aZ,zB,zD]; omega),b4.mk']
  ·refine ⟨_,c3,b3,.move (S [47,97]) _ (.inr rfl) hF,fun k=> ?_⟩
   simp only [eE]
   rw [e1,start 0,cb.mk',e2,aj inA,J1,aj ok1,b2.mk',e3,aj ok2,b3.mk']
   simp only [show ((5:Int)==1)=false from rfl,show ((5:Int)==2)=false from rfl,show ((5:Int)==3)=false from rfl,show ((5:Int)==5)=true from rfl,zF,zE]
   rw [decide_eq_false (show ¬ (0:Int)<((fJ w.Model).length:Int) by omega),bn]
 ·obtain ⟨u,c4,u1,u2,su,e4⟩:=bj (R:=R) 21 (by decide) (by decide) c3 iZ.1
  have b4:=b3.tr su
  obtain ⟨dl,d1,d2,d3⟩:=OI (R:=R) hn w.Fs.Mem.an hy
  obtain ⟨o,c5,wu,e5⟩:=fg (R:=R) 6 (by decide) (by decide) c4 su.1
  have b5:=b4.tr wu
  by_cases hz:0<dl.length
  ·cases o with
   | false =>
    obtain ⟨f,c6,f1,f2,It,e6⟩:=bj (R:=R) (dl.length:Int) (by omega) (by omega) c5 wu.1
    have b6:=b5.tr It
    have hm:=d2 _ (aU 0 (show f.toNat<dl.length by omega))
    refine ⟨_,c6,b6,.back (dl.getD f.toNat 0) hm.1 hm.2,fun k=> ?_⟩
    simp only [eE]
    rw [e1,start 0,cb.mk',e2,aj inA,J1,aj ok1,b2.mk',e3,aj ok2,b3.mk']
    simp only [show ((6:Int)==1)=false from rfl,show ((6:Int)==2)=false from rfl,show ((6:Int)==3)=false from rfl,show ((6:Int)==4)=false from rfl,show ((6:Int)==5)=false from rfl,show ((6:Int)==6)=true from rfl,zF,zE]
    rw [e4,d3,b4.mk',e5,decide_eq_true (show (0:Int)<(dl.length:Int) by omega)]
    simp only [zE,zN,Bool.and_self]
    rw [b5.mk',e6,aj (by simp only [aZ,zB,zD]; omega),b6.mk']
   | true =>
    refine ⟨_,c5,b5,.back u u1 (by omega),fun k=> ?_⟩
    simp only [eE]
    rw [e1,start 0,cb.mk',e2,aj inA,J1,aj ok1,b2.mk',e3,aj ok2,b3.mk']
    simp only [show ((6:Int)==1)=false from rfl,show ((6:Int)==2)=false from rfl,show ((6:Int)==3)=false from rfl,show ((6:Int)==4)=false from rfl,show ((6:Int)==5)=false from rfl,show ((6:Int)==6)=true from rfl,zF,zE]
    rw [e4,d3,b4.mk',e5,decide_eq_true (show (0:Int)<(dl.length:Int) by omega)]
    simp only [zE,zM,Bool.and_false,zF]
    rw [b5.mk']
  ·refine ⟨_,c4,b4,.back u u1 (by omega),fun k=> ?_⟩
   simp only [eE]
   rw [e1,start 0,cb.mk',e2,aj inA,J1,aj ok1,b2.mk',e3,aj ok2,b3.mk']
   simp only [show ((6:Int)==1)=false from rfl,show ((6:Int)==2)=false from rfl,show ((6:Int)==3)=false from rfl,show ((6:Int)==4)=false from rfl,show ((6:Int)==5)=false from rfl,show ((6:Int)==6)=true from rfl,zF,zE]
   rw [e4,d3,b4.mk',e5,decide_eq_false (show ¬ (0:Int)<(dl.length:Int) by omega)]
   simp only [zF,Bool.false_and]
   rw [b4.mk']
 ·refine ⟨_,c3,b3,.flush,fun k=> ?_⟩
  simp only [eE]
  rw [e1,start 0,cb.mk',e2,aj inA,J1,aj ok1,b2.mk',e3,aj ok2,b3.mk']; rfl
def SP (k:Nat) (p:ByteArray):Prop:=∃ l:List ByteArray,p=fb l/\l.length<=k/\∀ y∈l,y∈qb
theorem xY {x:ByteArray} (h:x∈qb):bN x=true:=by
 simp only [qb,zI,List.not_mem_nil,or_false] at h
 rcases h with rfl | rfl | rfl | rfl | rfl<;>decide
theorem SP.size {k:Nat} {p:ByteArray} (h:SP k p):p.size<=3*k:=by
 obtain ⟨l,rfl,hl,hn⟩:=h
 have:∀ (l:List ByteArray) (a:ByteArray),(∀ y∈l,y∈qb)->(l.foldl (fun s x=>(s++S [47])++x) a).size<=a.size+3*l.length:=by
  intro l
  induction l with
  | nil=>intro a _; simp
  | cons x l ih =>
   intro a h
   have h1:=td (h x zO)
   have h2:=ih ((a++S [47])++x) fun y hy=>h y (zJ _ hy)
   have h3:(S [47]).size=1:=rfl
   rw [List.foldl_cons,zR]
   rw [ByteArray.size_append,ByteArray.size_append,h3] at h2
   omega
 have:=this l eS hn
 rw [K9] at this
 show (fb l).size<=_
 simp only [fb]; omega
theorem SP.snoc {k:Nat} {p x:ByteArray} (h:SP k p) (hx:x∈qb):SP (k+1) ((p++S [47])++x):=by
 obtain ⟨l,rfl,b,c⟩:=h
 refine ⟨l++[x],by simp only [fb,List.foldl_append,List.foldl_cons,List.foldl_nil],by simp; omega,fun y hy=> ?_⟩
 rcases zH.1 hy with hy | hy
 ·exact c y hy
 ·rw [zS] at hy; subst hy; exact hx
theorem B6 {l:List ByteArray} (h:∀ y∈l,bN y=true) (h4:4<l.length):(aP (fb l)).2=false:=by
 match l,h4 with
 | x::xs,h4 =>
  have hx:=h x zO
  have hb:(fb (x::xs)).data.toList=47::(x.data.toList++vr xs):=ox _
  have cT:∃ c t,x.data.toList=c::t:=by
   have:=(eY hx).1
   cases hd:x.data.toList with
   | nil=>rw [size_eq,hd] at this; simp at this
   | cons c t=>exact ⟨c,t,rfl⟩
  obtain ⟨c,t,dk⟩:=cT
  have hs:oE [] (x.data.toList++vr xs)=x::xs:=by
   rw [wP _ _ _ (qU hx),List.nil_append,x6 xs _ fun z hz=>h z (zJ _ hz)]
   rfl
  simp only [aP,hb,beq_self_eq_true,zE]
  rw [dk,List.cons_append] at hs ⊢
  simp only [hs]
  rw [show decide ((x::xs).length<=4)=false by simp only [decide_eq_false_iff_not]; omega,Bool.and_false]; rfl
theorem SP.cut {k:Nat} {p:ByteArray} (h:SP k p) (hs:(aP p).2=true):SP 4 p:=by
 obtain ⟨l,rfl,b,c⟩:=h
 refine ⟨l,rfl,Decidable.byContradiction fun hn=> ?_,c⟩
 rw [B6 (fun y hy=>xY (c y hy)) (by omega)] at hs; cases hs
def cH (m:Mem) (e:Event):Mem×Int×Bool :=
 bif e.Kind==1 then ((e9 m e.Path 1).1,(e9 m e.Path 1).2,true) else
 bif e.Kind==2 then ((e9 m e.Path 2).1,(e9 m e.Path 2).2,true) else
 bif e.Kind==3 then ((jQ m e.Path e.At e.Text).1,(jQ m e.Path e.At e.Text).2,true) else
 bif e.Kind==4 then ((iy m e.Path).1,(iy m e.Path).2,true) else
 bif e.Kind==5 then ((jt m e.Path e.To).1,(jt m e.Path e.To).2,true) else (m,0,false)
theorem IZ {n:Nat} (hn:bk<=n) (h:ko m) (e:Event) (hp:e.Path.size<=cM) (hq:e.To.size<=cM) (k:Mem->Int->Bool->Option R):ql n m e k=k (cH m e).1 (cH m e).2.1 (cH m e).2.2:=by
 have hm:=h.sz
 simp only [ql,cH]
 rw [(zj hn m hm _ hp _ _).1,(zj hn m hm _ hp _ _).1,(FY hn m hm _ hp _ _ _).1,(Dh hn m hm _ hp _).1,GG hn h _ _ hp hq]
 cases e.Kind==1<;>cases e.Kind==2<;>cases e.Kind==3<;>cases e.Kind==4<;>cases e.Kind==5<;>rfl
theorem ko.call (h:ko m) (e:Event):ko (cH m e).1:=by
 simp only [cH]
 have h1:=h.make e.Path 1
 have h2:=h.make e.Path 2
 have h3:=h.text e.Path e.At e.Text
 have h4:=h.remove e.Path
 have h5:=h.move e.Path e.To
 cases e.Kind==1 with
 | true=>exact h1
 | false =>
 cases e.Kind==2 with
 | true=>exact h2
 | false =>
 cases e.Kind==3 with
 | true=>exact h3
 | false =>
 cases e.Kind==4 with
 | true=>exact h4
 | false =>
 cases e.Kind==5 with
 | true=>exact h5
 | false=>exact h
def z9 (e:Event) (w:World):World :=
 ⟨bif e.Kind==6 then (dA ⟨(cH w.Fs.Mem e).1,w.Fs.Device⟩ e.At).1 else bif e.Kind==7 then flush ⟨(cH w.Fs.Mem e).1,w.Fs.Device⟩ else ⟨(cH w.Fs.Mem e).1,w.Fs.Device⟩,
  bif (cH w.Fs.Mem e).2.2&&((cH w.Fs.Mem e).2.1==0) then dv w.Model e else w.Model,
  w.jv++[(cH w.Fs.Mem e).2.1],
  bif e.Kind==7 then w.Model else w.Kept⟩
theorem ME {n:Nat} (hn:bk<=n) (e:Event) (h8:(e.Kind==8)=false) (m0:Mem) (d0:Device) (md:List Node) (cs:List Int) (kp:List Node) (h:p6 ⟨m0,d0⟩) (hl:md.length<=1048576) (hp:∀ x∈md,x.Path.size<=1000) (hc:cs.length<=1000000) (he:e.Path.size<=cM) (ht:e.To.size<=cM) (k:World->Option R) :
  uj n e ⟨⟨m0,d0⟩,md,cs,kp⟩ k=k ⟨bif e.Kind==6 then (dA ⟨(cH m0 e).1,d0⟩ e.At).1 else bif e.Kind==7 then flush ⟨(cH m0 e).1,d0⟩ else ⟨(cH m0 e).1,d0⟩,bif (cH m0 e).2.2&&((cH m0 e).2.1==0) then dv md e else md,cs++[(cH m0 e).2.1],bif e.Kind==7 then md else kp⟩:=by
 have ok1:bg cs=true:=bZ (by omega)
 have ok2:∀ c,bg (cs++[c])=true:=fun c=>bZ (by rw [zK,zL]; omega)
 have okm:bg md=true:=bZ (by omega)
 have hI:p6 ⟨(cH m0 e).1,d0⟩:=⟨h.m.call e,h.d⟩
 have hwb:∀ k:Fs->Bool->Option R,il n ⟨(cH m0 e).1,d0⟩ e.At k=k (dA ⟨(cH m0 e).1,d0⟩ e.At).1 (dA ⟨(cH m0 e).1,d0⟩ e.At).2:=fun k=>wS hn _ hI.m.sz (E1 hI.d) _ k
 have AJ:∀ k:Fs->Option R,pC n ⟨(cH m0 e).1,d0⟩ k=k (flush ⟨(cH m0 e).1,d0⟩):=fun k=>Pt hn _ hI k
 have hm:∀ k:List Node->Option R,lA n md e k=k (dv md e):=fun k=>Dd hn _ hl (fun x hx=>Nat.le_trans (hp x hx) (by decide)) e he k
 have NU:∀ k:Mem->Int->Bool->Option R,ql n m0 e k=k (cH m0 e).1 (cH m0 e).2.1 (cH m0 e).2.2:=fun k=>IZ hn h.m e he ht k
 have LC:(cH m0 e).2.2=false->(cH m0 e).1=m0:=fun hf=>by
  revert hf
  simp only [cH]
  cases e.Kind==1<;>cases e.Kind==2<;>cases e.Kind==3<;>cases e.Kind==4<;>cases e.Kind==5<;>first | (intro hf; cases hf; done) | (intro _; rfl)
 have adk:(e.Kind==6)=true->(e.Kind==7)=false:=fun a=>by rw [beq_iff_eq] at a; rw [a]; rfl
 have Qz:(cH m0 e).2.2=true->(e.Kind==7)=false:=fun hf=>by
  cases h7:e.Kind==7 with
  | false=>rfl
  | true =>
   rw [beq_iff_eq] at h7
   simp only [cH,h7] at hf
   cases hf
 simp only [uj,List.nil_append]
 rw [NU]
 clear NU hI h hp he ht
 generalize cH m0 e=c at *
 obtain ⟨c1,c2,c3⟩:=c
 simp only at LC Qz hwb AJ ⊢
 generalize dv md e=ma at *
 cases c3 with
 | true =>
  generalize dA ⟨c1,d0⟩ e.At=wb at *
  generalize flush ⟨c1,d0⟩=fl at *
  simp only [ok1,ok2,bc,h8,zE,zF,hwb,AJ,hm,okm,Qz rfl,Bool.true_and]
  cases c2==0<;>cases e.Kind==6<;>rfl
 | false =>
  have cb:=LC rfl
  subst cb
  generalize dA ⟨c1,d0⟩ e.At=wb at *
  generalize flush ⟨c1,d0⟩=fl at *
  simp only [ok1,ok2,bc,h8,zE,zF,hwb,AJ,hm,okm,Bool.false_and]
  cases h6:e.Kind==6 with
  | true=>rw [adk h6]; simp only [zE,zF]
  | false =>
   simp only [zF]
   cases e.Kind==7 with
   | true=>simp only [zE]
   | false=>simp only [zF]
theorem Pq {n:Nat} (hn:bk<=n) (e:Event) (h8:(e.Kind==8)=false) (w:World) (h:p6 w.Fs) (hl:w.Model.length<=1048576) (hp:∀ x∈w.Model,x.Path.size<=1000) (hc:w.jv.length<=1000000) (he:e.Path.size<=cM) (ht:e.To.size<=cM) (k:World->Option R) :
  uj n e w k=k (z9 e w):=ME hn e h8 w.Fs.Mem w.Fs.Device w.Model w.jv w.Kept h hl hp hc he ht k
structure BS (t:Nat) (w:World):Prop where
 fs:p6 w.Fs
 ml:w.Model.length<=t
 mp:∀ x∈w.Model,SP 4 x.Path
 cl:w.jv.length<=t
theorem lu.kind {l:List Node} {e:Event} (h:lu l e):(e.Kind==8)=false:=by
 cases h with
 | make k p hk _=>rcases hk with rfl | rfl<;>rfl
 | write=>rfl
 | remove=>rfl
 | move=>rfl
 | back=>rfl
 | flush=>rfl
theorem v5.sp {l:List Node} (hl:∀ x∈l,SP 4 x.Path) {p:ByteArray} (h:v5 l p):SP 5 p:=by
 obtain ⟨d,hd,x,hx,rfl⟩:=h
 have z6:SP 4 d:=by
  simp only [lC,zI,List.mem_map,List.mem_filter] at hd
  rcases hd with rfl | ⟨z,hz,rfl⟩
  ·exact ⟨[],rfl,by simp,fun y hy=>(List.not_mem_nil hy).elim⟩
  ·exact hl z hz.1
 exact z6.snoc hx
theorem v5.size {l:List Node} (hl:∀ x∈l,x.Path.size<=1000) {p:ByteArray} (h:v5 l p):p.size<=1003:=by
 obtain ⟨d,hd,x,hx,rfl⟩:=h
 have z6:d.size<=1000:=by
  simp only [lC,zI,List.mem_map,List.mem_filter] at hd
  rcases hd with rfl | ⟨z,hz,rfl⟩
  ·decide
  ·exact hl z hz.1
 have h1:=td hx
 have h3:(S [47]).size=1:=rfl
 rw [ByteArray.size_append,ByteArray.size_append,h3]; omega
theorem Ng {l:List Node} {p:ByteArray} (h:p∈fJ l):∃ x∈l,x.Path=p:=by
 simp only [fJ,List.mem_map,List.mem_filter] at h
 obtain ⟨x,hx,rfl⟩:=h
 exact ⟨x,hx.1,rfl⟩
theorem lu.size {l:List Node} (hl:∀ x∈l,x.Path.size<=1000) {e:Event} (h:lu l e):e.Path.size<=1003/\e.To.size<=1003:=by
 have hf:∀ {p},(p∈fJ l\/p=S [47,97])->p.size<=1003:=fun h=>by
  rcases h with h | rfl
  ·obtain ⟨x,hx,rfl⟩:=Ng h
   have:=hl x hx; omega
  ·decide
 have e0:eS.size<=1003:=by decide
 cases h with
 | make k p hk hp=>exact ⟨hp.size hl,e0⟩
 | write p a t hp=>exact ⟨hf hp,e0⟩
 | remove p hp =>
  refine ⟨?_,e0⟩
  rcases hp with hp | rfl
  ·obtain ⟨x,hx,rfl⟩:=List.mem_map.1 hp
   have:=hl x hx; show x.Path.size<=1003; omega
  ·show (S [47,98]).size<=1003; decide
 | move p q hp hq=>exact ⟨hf hp,hq.size hl⟩
 | back=>exact ⟨e0,e0⟩
 | flush=>exact ⟨e0,e0⟩
theorem Pd (m:Mem) (p t:ByteArray) (a:Int) (x:ByteArray):cH m ⟨1,p,t,a,x⟩=((e9 m p 1).1,(e9 m p 1).2,true):=rfl
theorem Pe (m:Mem) (p t:ByteArray) (a:Int) (x:ByteArray):cH m ⟨2,p,t,a,x⟩=((e9 m p 2).1,(e9 m p 2).2,true):=rfl
theorem Pv (m:Mem) (p t:ByteArray) (a:Int) (x:ByteArray):cH m ⟨5,p,t,a,x⟩=((jt m p t).1,(jt m p t).2,true):=rfl
theorem O5 (l:List Node) {k:Int} (hk:k=1\/k=2) (p t:ByteArray) (a:Int) (x:ByteArray):dv l ⟨k,p,t,a,x⟩=u6 (l++[⟨p,k==2,eS,eS⟩]):=by
 have:((k==1)||(k==2))=true:=by simpa using hk
 simp only [dv,this,zE]
theorem S0 (l:List Node) (p t:ByteArray) (a:Int) (x:ByteArray):dv l ⟨3,p,t,a,x⟩=l.map (wh ⟨3,p,t,a,x⟩):=by
 simp only [dv,show ((3:Int)==1)=false from rfl,show ((3:Int)==2)=false from rfl,show ((3:Int)==3)=true from rfl,Bool.or_false,zE,zF]
theorem Su (l:List Node) (p t:ByteArray) (a:Int) (x:ByteArray):dv l ⟨4,p,t,a,x⟩=l.filter (fun x=> !below x.Path p):=by
 simp only [dv,show ((4:Int)==1)=false from rfl,show ((4:Int)==2)=false from rfl,show ((4:Int)==3)=false from rfl,show ((4:Int)==4)=true from rfl,Bool.or_false,zE,zF]
theorem Sf (l:List Node) (p t:ByteArray) (a:Int) (x:ByteArray):dv l ⟨5,p,t,a,x⟩=u6 (l.map (Bz ⟨5,p,t,a,x⟩)):=by
 simp only [dv,show ((5:Int)==1)=false from rfl,show ((5:Int)==2)=false from rfl,show ((5:Int)==3)=false from rfl,show ((5:Int)==4)=false from rfl,show ((5:Int)==5)=true from rfl,Bool.or_false,zE,zF]
theorem KN (l:List Node) (k:Int) (hk:k=6\/k=7) (p t:ByteArray) (a:Int) (x:ByteArray):dv l ⟨k,p,t,a,x⟩=l:=by
 rcases hk with rfl | rfl<;>simp only [dv,show ((6:Int)==1)=false from rfl,show ((6:Int)==2)=false from rfl,show ((6:Int)==3)=false from rfl,show ((6:Int)==4)=false from rfl,show ((6:Int)==5)=false from rfl,show ((7:Int)==1)=false from rfl,show ((7:Int)==2)=false from rfl,show ((7:Int)==3)=false from rfl,show ((7:Int)==4)=false from rfl,show ((7:Int)==5)=false from rfl,Bool.or_false,zE,zF]
theorem Kk {p:ByteArray} {k:Int} (h:(e9 m p k).2=0):(aP p).2=true:=by
 have h2:(ao p).2.2=true:=by
  cases hs:(ao p).2.2 with
  | true=>rfl
  | false =>
   simp only [e9,hs,zN,Bool.or_true,Bool.true_or,zE] at h
   exact absurd h (by decide)
 obtain ⟨l,x,e,_⟩:=gX h2
 rw [e]
theorem RD {p q:ByteArray} (h:(jt m p q).2=0):(aP q).2=true:=by
 have h2:(ao q).2.2=true:=by
  cases hs:(ao q).2.2 with
  | true=>rfl
  | false =>
   simp only [jt,hs,zN,Bool.or_true,zE] at h
   exact absurd h (by decide)
 obtain ⟨l,x,e,_⟩:=gX h2
 rw [e]
theorem p6.flush {f:Fs} (h:p6 f):p6 (Soft.flush f):=by unfold Soft.flush; exact p6.qK 400 h
theorem BS.step {t:Nat} {w:World} (h:BS t w) {e:Event} (he:lu w.Model e):BS (t+1) (z9 e w):=by
 have hI:p6 ⟨(cH w.Fs.Mem e).1,w.Fs.Device⟩:=⟨h.fs.m.call e,h.fs.d⟩
 have NU:(z9 e w).jv.length<=t+1:=by
  simp only [z9]
  rw [zK,zL]; have:=h.cl; omega
 have Rx:p6 (z9 e w).Fs:=by
  simp only [z9]
  cases e.Kind==6 with
  | true=>rw [zE]; exact hI.back e.At
  | false =>
   rw [zF]
   cases e.Kind==7 with
   | true=>rw [zE]; exact hI.flush
   | false=>rw [zF]; exact hI
 have NY:=h.ml
 have hM:(z9 e w).Model.length<=t+1/\∀ x∈(z9 e w).Model,SP 4 x.Path:=by
  simp only [z9]
  cases hc:(cH w.Fs.Mem e).2.2&&((cH w.Fs.Mem e).2.1==0) with
  | false=>exact ⟨by simp only [zF]; omega,h.mp⟩
  | true =>
   simp only [zB,beq_iff_eq] at hc
   simp only [zE]
   have hc:=hc.2
   cases he with
   | make k p hk hp =>
    have hm:=O5 w.Model hk p eS 0 eS
    have hs:(aP p).2=true:=by
     rcases hk with rfl | rfl
     ·rw [Pd] at hc; exact Kk hc
     ·rw [Pe] at hc; exact Kk hc
    rw [hm]
    refine ⟨by rw [D3,zK,zL]; omega,fun x hx=> ?_⟩
    rw [Ev,zH,zS] at hx
    rcases hx with hx | rfl
    ·exact h.mp x hx
    ·exact (hp.sp h.mp).cut hs
   | write p a t hp ha ht =>
    have hm:=S0 w.Model p eS a t
    rw [hm]
    refine ⟨by rw [List.length_map]; omega,fun x hx=> ?_⟩
    obtain ⟨y,hy,rfl⟩:=List.mem_map.1 hx
    have:(wh ⟨3,p,eS,a,t⟩ y).Path=y.Path:=by
     simp only [wh]
     cases (!(y.Path==p))||y.cf with
     | true=>rfl
     | false=>cases a==0<;>rfl
    rw [this]; exact h.mp y hy
   | remove p hp =>
    have hm:=Su w.Model p eS 0 eS
    rw [hm]
    exact ⟨Nat.le_trans (List.length_filter_le _ _) (by omega),fun x hx=>h.mp x (List.mem_filter.1 hx).1⟩
   | move p q hp hq =>
    have hm:=Sf w.Model p q 0 eS
    rw [hm]
    refine ⟨by rw [D3,List.length_map]; omega,fun x hx=> ?_⟩
    rw [Ev] at hx
    obtain ⟨y,hy,rfl⟩:=List.mem_map.1 hx
    simp only [Bz]
    cases (y.Path==p)&&(!y.cf) with
    | true=>rw [Pv] at hc; exact (hq.sp h.mp).cut (RD hc)
    | false=>exact h.mp y hy
   | back u=>rw [KN _ _ (.inl rfl)]; exact ⟨by omega,h.mp⟩
   | flush=>rw [KN _ _ (.inr rfl)]; exact ⟨by omega,h.mp⟩
 exact ⟨Rx,hM.1,hM.2,NU⟩
inductive WR:World->Prop
 | new:WR ⟨GU,[],[],[]⟩
 | step {w:World} {e:Event}:WR w->lu w.Model e->WR (z9 e w)
theorem BS.new:BS 0 ⟨GU,[],[],[]⟩:=⟨p6.new,by simp,fun x hx=>(List.not_mem_nil hx).elim,by simp⟩
theorem SP.le {p:ByteArray} (h:SP 4 p):p.size<=1000:=by have:=h.size; omega
theorem MC {n:Nat} (hn:bk<=n) {t:Nat} (ht:t<=1000000) (w:World) (h:BS t w) (c:eF) (hc:ux c):∃ e c',Cn c c'/\lu w.Model e/\(∀ k:Event->eF->Option R,eE n w c k=k e c')/\∀ k:World->Option R,uj n e w k=k (z9 e w):=by
 have NY:=h.ml
 have NU:=h.cl
 have hp:∀ x∈w.Model,x.Path.size<=1000:=fun x hx=>(h.mp x hx).le
 obtain ⟨e,c',h1,h2,h3⟩:=Mv (R:=R) hn w (by omega) hp h.fs.m.g.R.dy c hc
 obtain ⟨s1,s2⟩:=h2.size hp
 exact ⟨e,c',h1,h2,h3,fun k=>Pq hn e h2.kind w h.fs (by omega) hp (by omega) (Nat.le_trans s1 (by decide)) (Nat.le_trans s2 (by decide)) k⟩
theorem KM {n:Nat} (hn:bk<=n) (b:List UInt8):∀ (r i:Nat) (w:World) (c:eF),i+r=28->BS i w->WR w->ux c->c.b=b->∃ w' c',Cn c c'/\BS 28 w'/\WR w'/\∀ (m:Nat) (q:World->eF->Option R),r<m ->
   mq n b (fun i xh v eM dz gr jk lW ia sa C4 rM dQ=>q ⟨⟨⟨⟨⟨eM,dz⟩,gr,jk⟩,lW,ia,v⟩,⟨sa⟩⟩,C4,rM,dQ⟩ ⟨b,i,xh⟩) m (i:Int) c.i c.h w.Fs.Mem.Next w.Fs.Mem.aa.au.ab w.Fs.Mem.aa.au.bF w.Fs.Mem.aa.ad w.Fs.Mem.aa.ab w.Fs.Mem.an w.Fs.Mem.ae w.Fs.Device.cA w.Model w.jv w.Kept=q w' c'
 | r,i,w,c,h1,h2,h3,h4,h5=>by
  obtain ⟨x,c1,x1,x2,cb,e1⟩:=bj (R:=R) 24 (by decide) (by decide) c h4
  have hcb:(⟨b,c.i,c.h⟩:eF)=c:=by rw [← h5]
  have Zq:(⟨b,c1.i,c1.h⟩:eF)=c1:=by rw [← h5]; exact cb.mk'
  by_cases fW:(i:Int)<4+x
  ·match r,h1 with
   | 0,h1=>omega
   | r+1,h1 =>
    obtain ⟨e,c2,fy,he,e2,e3⟩:=MC (R:=R) hn (t:=i) (by omega) w h2 c1 cb.1
    obtain ⟨w',c',q1,q2,q3,q4⟩:=KM hn b r (i+1) (z9 e w) c2 (by omega) (h2.step he) (h3.step he) fy.1 (fy.2.trans (cb.2.trans h5))
    refine ⟨w',c',(cb.tr fy).tr q1,q2,q3,fun m q hm=> ?_⟩
    match m,hm with
    | m+1,hm =>
     simp only [mq]
     rw [hcb,e1,Zq,bT (n:=4+x) (by omega) (by omega),decide_eq_true fW,bH]
     refine (e2 _).trans ?_
     refine (e3 _).trans ?_
     rw [bL (by omega)]
     exact q4 m q (by omega)
  ·refine ⟨w,c1,cb,⟨h2.fs,Nat.le_trans h2.ml (by omega),h2.mp,Nat.le_trans h2.cl (by omega)⟩,h3,fun m q hm=> ?_⟩
   match m,hm with
   | m+1,hm =>
    simp only [mq]
    rw [hcb,e1,bT (n:=4+x) (by omega) (by omega),decide_eq_false fW,bn]
    show q w ⟨b,c1.i,c1.h⟩=_
    rw [Zq]
termination_by r=>r
theorem K4 {n:Nat} (hn:bk<=n) (c:eF) (hc:ux c):∃ w c',Cn c c'/\BS 28 w/\WR w/\∀ k:Fs->eF->Option R,wI n c k=k w.Fs c':=by
 obtain ⟨w',c',q1,q2,q3,q4⟩:=KM (R:=R) hn c.b 28 0 ⟨GU,[],[],[]⟩ c rfl BS.new WR.new hc rfl
 refine ⟨w',c',q1,q2,q3,fun k=> ?_⟩
 simp only [wI]
 rw [Pj hn]
 exact q4 n (fun w c=>k w.Fs c) (aH hn (by omega))
theorem iu {σ:Type} {L:(Int->Int->σ->Option R)->Nat->Int->Int->Int->σ->Option R} {b:List UInt8} {len B:Nat} {I:Nat->σ->Prop} (hl:len<=4611686018427387904)
  (hs:∀ i (c:eF) s,i<len->ux c->c.b=b->I i s->∃ c' s',Cn c c'/\I (i+1) s'/\∀ q m,B<m->L q (m+1) (i:Int) c.i c.h s=L q m (aA ((i:Int)+1)) c'.i c'.h s')
  (hq:∀ q m (c:eF) s,I len s->L q (m+1) (len:Int) c.i c.h s=q c.i c.h s) :
  ∀ (k i:Nat) (c:eF) (s:σ),i+k=len->ux c->c.b=b->I i s->∃ c' s',Cn c c'/\I len s'/\∀ q m,k+B<m->L q m (i:Int) c.i c.h s=q c'.i c'.h s'
 | 0,i,c,s,h1,hc,hb,h3=>by
  have:i=len:=by omega
  subst this
  refine ⟨c,s,⟨hc,rfl⟩,h3,fun q m hm=> ?_⟩
  match m,hm with
  | m+1,_=>exact hq q m c s h3
 | k+1,i,c,s,h1,hc,hb,h3=>by
  obtain ⟨c1,s1,cb,Am,e1⟩:=hs i c s (by omega) hc hb h3
  obtain ⟨c2,s2,fy,Wq,e2⟩:=iu hl hs hq k (i+1) c1 s1 (by omega) cb.1 (cb.2.trans hb) Am
  refine ⟨c2,s2,cb.tr fy,Wq,fun q m hm=> ?_⟩
  match m,hm with
  | m+1,hm=>rw [e1 q m (by omega),bL (by omega)]; exact e2 q m (by omega)
theorem Cn.ZP {c c':eF} {b:List UInt8} (h:Cn c c') (hb:c.b=b):(⟨b,c'.i,c'.h⟩:eF)=c':=by rw [← hb]; exact h.mk'
theorem mg {c:eF} {b:List UInt8} (hb:c.b=b):(⟨b,c.i,c.h⟩:eF)=c:=by rw [← hb]
theorem la {x a b:Int} (h1:a<=x) (h2:x<=b):within x a b=true:=ak.2 ⟨h1,h2⟩
theorem AZ (c:eF) (hc:ux c):∃ x c',bp x=true/\Cn c c'/\∀ k:aV->eF->Option R,mh c k=k x c':=by
 obtain ⟨r,c1,hr,cb,e1⟩:=fD (R:=R) [0,1,2] (by decide) (by decide) c hc
 have cC:r=0\/r=1\/r=2:=by simpa using hr
 by_cases h0:r=0
 ·subst h0
  refine ⟨ba 0,c1,rfl,cb,fun k=> ?_⟩
  simp only [mh]
  rw [e1,jz,show (!((ba 0).Kind==0))=false from rfl,bn,cb.mk']
 ·obtain ⟨a,c2,a1,a2,fy,e2⟩:=bj (R:=R) 4 (by decide) (by decide) c1 cb.1
  obtain ⟨p,c3,p1,p2,iZ,e3⟩:=bj (R:=R) 17 (by decide) (by decide) c2 fy.1
  obtain ⟨q,c4,q1,q2,su,e4⟩:=bj (R:=R) 17 (by decide) (by decide) c3 iZ.1
  obtain ⟨z,c5,hz,wu,e5⟩:=fD (R:=R) [0,0,q] (by simp) (by show 3<=cM; decide) c4 su.1
  have Gm:0<=z/\z<=16:=by
   simp only [zI,List.not_mem_nil,or_false] at hz; omega
  have b2:=cb.tr fy
  have b3:=b2.tr iZ
  have b4:=b3.tr su
  have b5:=b4.tr wu
  have hN:ba r=⟨r,1,[0,0]⟩:=by rcases cC with h | h | h<;>subst h<;>first | exact absurd rfl h0 | rfl
  refine ⟨⟨r,a,[p,z]⟩,c5,?_,b5,fun k=> ?_⟩
  ·have e1':(r==0)=false:=beq_eq_false_iff_ne.2 h0
   have e2':(r != 0)=true:=by simp only [bne,e1',zN]
   simp only [bp,la (show 0<=r by omega) (show r<=2 by omega),la (show 0<=a by omega) (show a<=200 by omega),la p1 (show p<=16 by omega),la Gm.1 Gm.2,e2',List.all_cons,List.all_nil,zR,List.length_nil]
   rfl
  ·simp only [mh]
   rw [e1,jz,hN]
   rw [show (!((⟨r,1,[0,0]⟩:aV).Kind==0))=true by simpa using h0,bH,cb.mk',e2,b2.mk',e3,aj (by rfl),b3.mk',e4,b4.mk']
   refine (e5 _).trans ?_
   rw [aj (by rfl),b5.mk']; rfl
theorem Mb {x:Int} (h1:0<=x) (h2:x<=255):kt x=true:=by simp only [kt,zB,zD]; omega
theorem Ms {n:Nat} (hn:bk<=n) (z:Nat) (hz:z<=5000) (c:eF) (hc:ux c):∃ (s:ByteArray) (c':eF),s.size=z/\Cn c c'/\∀ k:ByteArray->eF->Option R,qp n (z:Int) c k=k s c':=by
 obtain ⟨c',s,lS,hI,e⟩:=iu (R:=R) (L:=fun q=>iv (z:Int) c.b q) (b:=c.b) (len:=z) (B:=0) (I:=fun i (s:List UInt8)=>s.length=i) (by omega)
  (fun i c0 s hi h1 h2 h3=>by
   obtain ⟨x,c1,x1,x2,cb,e1⟩:=nY (R:=R) c0 h1
   refine ⟨c1,s++[UInt8.ofNat (IntKind.u8.wrap x).toNat],cb,by rw [zK,h3,zL],fun q m _=> ?_⟩
   simp only [iv]
   rw [show decide ((i:Int)<(z:Int))=true by rw [zD]; omega,bH,mg h2,e1,n5,Bool.true_and,bc,aj (cm (i:=i) (by omega) (by omega) (by simp))])
  (fun q m c0 s h=>by simp [iv]) z 0 c [] (by omega) hc rfl rfl
 refine ⟨zm s,c',hI,lS,fun k=> ?_⟩
 simp only [qp]
 rw [show decide ((5000:Int)<(z:Int))=false by simp; omega,bn]
 refine (e _ n (aH hn (by omega))).trans ?_
 rw [lS.mk']
theorem JF {n:Nat} (hn:bk<=n) (x:Int) (h1:0<=x) (h2:x<=5000) (c:eF) (hc:ux c):∃ (s:ByteArray) (c':eF),(s.size:Int)=x/\Cn c c'/\∀ k:ByteArray->eF->Option R,qp n x c k=k s c':=by
 obtain ⟨z,rfl⟩:=Int.eq_ofNat_of_zero_le h1
 obtain ⟨s,c',a,b,e⟩:=Ms (R:=R) hn z (by omega) c hc
 exact ⟨s,c',by omega,b,e⟩
theorem Ss {n:Nat} (hn:bk<=n) (z:Nat) (hz:z<=100000) (x:Int) (h1:0<=x) (h2:x<=255):∃ s:ByteArray,s.size=z/\∀ k:ByteArray->Option R,uh n (z:Int) x k=k s:=by
 have key:∀ (r i:Nat) (a:List UInt8),i+r=z->a.length=z->∃ a':List UInt8,a'.length=z/\∀ (q:List UInt8->Option R) (m:Nat),r<m->jT (z:Int) x q m (i:Int) a=q a':=by
  intro r
  induction r with
  | zero =>
   intro i a h1 h2
   refine ⟨a,h2,fun q m hm=> ?_⟩
   match m,hm with
   | m+1,_ =>
    simp only [jT]
    rw [show decide ((i:Int)<(z:Int))=false by simp; omega,bn]
  | succ r ih =>
   intro i a Iw J8
   obtain ⟨a',F5,e⟩:=ih (i+1) (a.set i (UInt8.ofNat x.toNat)) (by omega) (List.length_set.trans J8)
   refine ⟨a',F5,fun q m hm=> ?_⟩
   match m,hm with
   | m+1,hm =>
    simp only [jT,aF,J8]
    rw [show decide ((i:Int)<(z:Int))=true by rw [zD]; omega,bH,show decide (i<z)=true by rw [zD]; omega,bc,aj (Mb h1 h2),bL (by omega),zC]
    exact e q m (by omega)
 obtain ⟨a',F5,e⟩:=key z 0 (List.replicate (z:Int).toNat 0) (by omega) (by simp)
 refine ⟨zm a',F5,fun k=> ?_⟩
 simp only [uh]
 rw [aj (by
  simp only [Yg,beq_self_eq_true,Bool.true_and,zB,zD]
  have hb:(z:Int).toNat<=1099511627776:=by omega
  exact ⟨by omega,Nat.ble_eq_true_of_le hb⟩)]
 exact e _ n (aH hn (by omega))
def K5 (l:List Slot):Prop:=bA ⟨true,l,eS⟩=true
theorem Po {n:Nat} (hn:bk<=n) (b:List UInt8) (c:eF) (hc:ux c) (hb:c.b=b):∃ c' l,Cn c c'/\K5 l/\∀ q:Int->Int->List Slot->Option R,dZ n true eS b q n 0 c.i c.h (List.replicate 4 aq)=q c'.i c'.h l:=by
 obtain ⟨c',s,lS,hI,e⟩:=iu (R:=R) (L:=fun q=>dZ n true eS b q) (b:=b) (len:=4) (B:=0) (I:=fun i (s:List Slot)=>K5 s/\∀ t,i<=t->s.getD t aq=aq) (by omega)
  (fun i c0 s hi h1 h2 h3=>by
   obtain ⟨x,c1,hx,cb,e1⟩:=Eo (R:=R) c0 h1
   obtain ⟨a,c2,a1,a2,fy,e2⟩:=bj (R:=R) 8 (by decide) (by decide) c1 cb.1
   obtain ⟨o,c3,iZ,e3⟩:=fg (R:=R) 2 (by decide) (by decide) c2 fy.1
   have xV:=(pO (b:=⟨true,s,eS⟩) rfl).1 h3.1
   have Rk:s.length=4:=xV.1
   have m0:(⟨b,c0.i,c0.h⟩:eF)=c0:=mg h2
   have m1:(⟨b,c1.i,c1.h⟩:eF)=c1:=cb.ZP h2
   have m2:(⟨b,c2.i,c2.h⟩:eF)=c2:=(cb.tr fy).ZP h2
   have qe:∀ k:Int->Option R,qm n ⟨true,s,eS⟩ x k=_:=fun k=>DF hn ⟨true,s,eS⟩ (by show s.length<=cM; rw [Rk]; decide) x k
   have eL:∀ t,i+1<=t->s.getD t aq=aq:=fun t ht=>h3.2 t (by omega)
   rcases tI (b:=⟨true,s,eS⟩) (nm:=x) (fT (xY hx)) with ⟨hs,CQ⟩ | ⟨j,hs,_⟩
   ·cases o with
    | true =>
     refine ⟨c3,s.set i ⟨x,1+a⟩,(cb.tr fy).tr iZ,⟨?_,fun t ht=> ?_⟩,fun q m _=> ?_⟩
     ·exact nv (b:=⟨true,s,eS⟩) h3.1 rfl (by omega) (.inr ⟨xY hx,⟨by show 1<=1+a; omega,by show 1+a<=8; omega⟩⟩) fun _ t _=>CQ t
     ·rw [cK,if_neg (by omega)]; exact eL t ht
     ·simp only [dZ]
      rw [show decide ((i:Int)<4)=true by rw [zD]; omega,bH,m0,e1,m1,e2,qe,hs,m2,e3]
      rw [show decide ((-1:Int)<0)=true from rfl]
      simp only [zE,Bool.and_self,aF,Rk]
      rw [show decide (i<4)=true by rw [zD]; omega,bc,bT (n:=1+a) (by omega) (by omega),zC]
    | false =>
     refine ⟨c3,s,(cb.tr fy).tr iZ,⟨h3.1,eL⟩,fun q m _=> ?_⟩
     simp only [dZ]
     rw [show decide ((i:Int)<4)=true by rw [zD]; omega,bH,m0,e1,m1,e2,qe,hs,m2,e3]
     rw [show decide ((-1:Int)<0)=true from rfl]
     simp only [zE,zF,Bool.and_false]
   ·refine ⟨c2,s,cb.tr fy,⟨h3.1,eL⟩,fun q m _=> ?_⟩
    simp only [dZ]
    rw [show decide ((i:Int)<4)=true by rw [zD]; omega,bH,m0,e1,m1,e2,qe,hs,m2,e3]
    rw [show decide (((j:Nat):Int)<0)=false by simp]
    simp only [zF,Bool.false_and])
  (fun q m c0 s h=>by simp [dZ]) 4 0 c (List.replicate 4 aq) (by omega) hc hb ⟨by show bA _=true; decide,fun t _=>by
   match t with
   | 0=>rfl
   | 1=>rfl
   | 2=>rfl
   | 3=>rfl
   | t+4=>rfl⟩
 exact ⟨c',s,lS,hI.1,fun q=>e q n (aH hn (by omega))⟩
theorem Bo {n:Nat} (hn:bk<=n) (c:eF) (hc:ux c):∃ x c',bA x=true/\Cn c c'/\∀ k:Block->eF->Option R,l6 n c k=k x c':=by
 obtain ⟨o,c1,cb,e1⟩:=fg (R:=R) 2 (by decide) (by decide) c hc
 cases o with
 | true =>
  obtain ⟨z,c2,z1,z2,fy,e2⟩:=bj (R:=R) 17 (by decide) (by decide) c1 cb.1
  obtain ⟨s,c3,hs,iZ,e3⟩:=JF (R:=R) hn z z1 (by omega) c2 fy.1
  have b2:=cb.tr fy
  have b3:=b2.tr iZ
  refine ⟨⟨false,[],s⟩,c3,?_,b3,fun k=> ?_⟩
  ·simp only [bA,zF]
   have:s.size<=16:=by omega
   simp [this]
  ·simp only [l6]
   rw [e1,bH,cb.mk',e2,b2.mk',e3,b3.mk']
 | false =>
  obtain ⟨c2,l,fy,hl,e2⟩:=Po (R:=R) hn c.b c1 cb.1 cb.2
  have b2:=cb.tr fy
  refine ⟨⟨true,l,eS⟩,c2,hl,b2,fun k=> ?_⟩
  simp only [l6]
  rw [e1,bn,yU]
  refine (e2 _).trans ?_
  rw [b2.mk']
theorem Sg {n:Nat} (hn:bk<=n) (b:List UInt8) (c:eF) (hc:ux c) (hb:c.b=b) (l:List aV) (hl:l.length=8) (hi:∀ x∈l,bp x=true):∃ c' l',Cn c c'/\(l'.length=8/\∀ x∈l',bp x=true)/\∀ q:Int->Int->List aV->Option R,fB b q n 0 c.i c.h l=q c'.i c'.h l':=by
 obtain ⟨c',s,lS,hI,e⟩:=iu (R:=R) (L:=fun q=>fB b q) (b:=b) (len:=8) (B:=0) (I:=fun i (s:List aV)=>s.length=8/\∀ x∈s,bp x=true) (by omega)
  (fun i c0 s hi h1 h2 h3=>by
   obtain ⟨o,c1,cb,e1⟩:=fg (R:=R) 2 (by decide) (by decide) c0 h1
   cases o with
   | true =>
    obtain ⟨x,c2,hx,fy,e2⟩:=AZ (R:=R) c1 cb.1
    refine ⟨c2,s.set i x,cb.tr fy,⟨List.length_set.trans h3.1,fun y hy=> ?_⟩,fun q m _=> ?_⟩
    ·rcases mem_set hy with z | z
     ·exact h3.2 y z
     ·rw [z]; exact hx
    ·simp only [fB]
     rw [show decide ((i:Int)<8)=true by rw [zD]; omega,bH,mg h2,e1,bH,cb.ZP h2,e2,aF,h3.1,show decide (i<8)=true by rw [zD]; omega,bc,zC]
   | false =>
    refine ⟨c1,s,cb,h3,fun q m _=> ?_⟩
    simp only [fB]
    rw [show decide ((i:Int)<8)=true by rw [zD]; omega,bH,mg h2,e1,bn])
  (fun q m c0 s h=>by simp [fB]) 8 0 c l (by omega) hc hb ⟨hl,hi⟩
 exact ⟨c',s,lS,hI,fun q=>e q n (aH hn (by omega))⟩
theorem SY {n:Nat} (hn:bk<=n) (b:List UInt8) (c:eF) (hc:ux c) (hb:c.b=b) (l:List Block) (hl:l.length=16) (hi:∀ x∈l,bA x=true):∃ c' l',Cn c c'/\(l'.length=16/\∀ x∈l',bA x=true)/\∀ q:Int->Int->List Block->Option R,fA n b q n 0 c.i c.h l=q c'.i c'.h l':=by
 obtain ⟨c',s,lS,hI,e⟩:=iu (R:=R) (L:=fun q=>fA n b q) (b:=b) (len:=16) (B:=0) (I:=fun i (s:List Block)=>s.length=16/\∀ x∈s,bA x=true) (by omega)
  (fun i c0 s hi h1 h2 h3=>by
   obtain ⟨o,c1,cb,e1⟩:=fg (R:=R) 2 (by decide) (by decide) c0 h1
   cases o with
   | true =>
    obtain ⟨x,c2,hx,fy,e2⟩:=Bo (R:=R) hn c1 cb.1
    refine ⟨c2,s.set i x,cb.tr fy,⟨List.length_set.trans h3.1,fun y hy=> ?_⟩,fun q m _=> ?_⟩
    ·rcases mem_set hy with z | z
     ·exact h3.2 y z
     ·rw [z]; exact hx
    ·simp only [fA]
     rw [show decide ((i:Int)<16)=true by rw [zD]; omega,bH,mg h2,e1,bH,cb.ZP h2,e2,aF,h3.1,show decide (i<16)=true by rw [zD]; omega,bc,zC]
   | false =>
    refine ⟨c1,s,cb,h3,fun q m _=> ?_⟩
    simp only [fA]
    rw [show decide ((i:Int)<16)=true by rw [zD]; omega,bH,mg h2,e1,bn])
  (fun q m c0 s h=>by simp [fA]) 16 0 c l (by omega) hc hb ⟨hl,hi⟩
 exact ⟨c',s,lS,hI,fun q=>e q n (aH hn (by omega))⟩
theorem OF {n:Nat} (hn:bk<=n) (b:List UInt8) (c:eF) (hc:ux c) (hb:c.b=b) (l:List Bool) (hl:l.length=16):∃ c' l',Cn c c'/\l'.length=16/\∀ q:Int->Int->List Bool->Option R,gP b q n 0 c.i c.h l=q c'.i c'.h l':=by
 obtain ⟨c',s,lS,hI,e⟩:=iu (R:=R) (L:=fun q=>gP b q) (b:=b) (len:=16) (B:=0) (I:=fun i (s:List Bool)=>s.length=16) (by omega)
  (fun i c0 s hi h1 h2 h3=>by
   obtain ⟨o,c1,cb,e1⟩:=fg (R:=R) 2 (by decide) (by decide) c0 h1
   refine ⟨c1,s.set i o,cb,List.length_set.trans h3,fun q m _=> ?_⟩
   simp only [gP]
   rw [show decide ((i:Int)<16)=true by rw [zD]; omega,bH,mg h2,e1,aF,h3,show decide (i<16)=true by rw [zD]; omega,bc,zC])
  (fun q m c0 s h=>by simp [gP]) 16 0 c l (by omega) hc hb hl
 exact ⟨c',s,lS,hI,fun q=>e q n (aH hn (by omega))⟩
def Mt:List ByteArray:=[S [112],S [113],S [114],S [115]]
theorem Ps {n:Nat} (hn:bk<=n) (b:List UInt8) (c:eF) (hc:ux c) (hb:c.b=b) (di:List aV) (p:Int) (p1:1<=p) (p2:p<=16) (QF:di.length=8) (h0:(di.getD 0 az).ay.length=2) (hp:(di.getD 0 az).ay.getD 0 0=p) (l:List Block) (hl:l.length=16) (hi:∀ x∈l,bA x=true)
  (UW:l.getD (p-1).toNat aC=⟨true,List.replicate 4 aq,eS⟩):∃ c' l',Cn c c'/\(l'.length=16/\∀ x∈l',bA x=true)/\∀ q:Int->Int->List Block->Option R,gQ b di q n 0 c.i c.h l=q c'.i c'.h l':=by
 obtain ⟨c',s,lS,hI,e⟩:=iu (R:=R) (L:=fun q=>gQ b di q) (b:=b) (len:=4) (B:=0) (I:=fun i (s:List Block)=>s.length=16/\(∀ x∈s,bA x=true)/\(s.getD (p-1).toNat aC).cf=true/\(∀ t,i<=t->(s.getD (p-1).toNat aC).ah.getD t aq=aq)/\∀ t,t<i->((s.getD (p-1).toNat aC).ah.getD t aq).Name=Mt.getD t eS) (by omega)
  (fun i c0 s hi h1 h2 h3=>by
   obtain ⟨a,c1,a1,a2,cb,e1⟩:=bj (R:=R) 8 (by decide) (by decide) c0 h1
   obtain ⟨s1,s2,s3,s4,s5⟩:=h3
   have fW:(p-1).toNat<s.length:=by omega
   have Rz:=s2 _ (aU aC fW)
   have Rk:=mN Rz s3
   have hpq:bN (Mt.getD i eS)=true:=by
    match i,hi with
    | 0,_=>decide
    | 1,_=>decide
    | 2,_=>decide
    | 3,_=>decide
   have rT:bA (ff (s.getD (p-1).toNat aC) i ⟨Mt.getD i eS,1+a⟩)=true:=by
    refine nv Rz s3 (by omega) (.inr ⟨hpq,⟨by show 1<=1+a; omega,by show 1+a<=8; omega⟩⟩) fun _ t ht=> ?_
    by_cases hti:t<i
    ·rw [s5 t hti]
     show Mt.getD t eS≠Mt.getD i eS
     match i,hi,t,hti with
     | 1,_,0,_=>decide
     | 2,_,0,_=>decide
     | 2,_,1,_=>decide
     | 3,_,0,_=>decide
     | 3,_,1,_=>decide
     | 3,_,2,_=>decide
    ·rw [s4 t (by omega)]; exact fun z=>fT hpq z.symm
   refine ⟨c1,s.set (p-1).toNat (ff (s.getD (p-1).toNat aC) i ⟨Mt.getD i eS,1+a⟩),cb,⟨List.length_set.trans s1,fun y hy=> ?_,?_,fun t ht=> ?_,fun t ht=> ?_⟩,fun q m _=> ?_⟩
   ·rcases mem_set hy with z | z
    ·exact s2 y z
    ·rw [z]; exact rT
   ·rw [cK,if_pos ⟨rfl,fW⟩]; exact s3
   ·rw [cK,if_pos ⟨rfl,fW⟩]
    simp only [ff]; rw [cK,if_neg (by omega)]; exact s4 t (by omega)
   ·rw [cK,if_pos ⟨rfl,fW⟩]
    simp only [ff]; rw [cK]
    split
    ·next q=>rw [q.1]
    ·next q=>exact s5 t (by omega)
   ·simp only [gQ,hp]
    rw [show decide ((i:Int)<4)=true by rw [zD]; omega,bH,aj (by rw [QF]; rfl),aj (by rw [h0]; rfl),bO (by omega) (by omega),aj (bz p1 (by omega)),
     show aZ (i:Int) ([S [112],S [113],S [114],S [115]]:List ByteArray).length=true by rw [aF,zD]; exact hi,bc,mg h2,e1,aF,Rk,show decide (i<4)=true by rw [zD]; omega,bc,bT (n:=1+a) (by omega) (by omega),zC]
    rfl)
  (fun q m c0 s h=>by simp [gQ]) 4 0 c l (by omega) hc hb ⟨hl,hi,by rw [UW],fun t _=>by
   rw [UW]
   match t with
   | 0=>rfl
   | 1=>rfl
   | 2=>rfl
   | 3=>rfl
   | t+4=>rfl,fun t ht=>absurd ht (Nat.not_lt_zero t)⟩
 exact ⟨c',s,lS,⟨hI.1,hI.2.1⟩,fun q=>e q n (aH hn (by omega))⟩
theorem Mj {n:Nat} (hn:bk<=n) (c:eF) (hc:ux c):∃ d c',lH d/\Cn c c'/\∀ k:aa->eF->Option R,qs n c k=k d c':=by
 have hD:=kK.1 AM
 obtain ⟨c1,l1,cb,h1,e1⟩:=Sg (R:=R) hn c.b c hc rfl fG.ad hD.di hD.ino
 obtain ⟨c2,l2,fy,h2,e2⟩:=SY (R:=R) hn c.b c1 cb.1 cb.2 fG.ab hD.db hD.pd
 have b2:=cb.tr fy
 obtain ⟨c3,l3,iZ,h3,e3⟩:=OF (R:=R) hn c.b c2 fy.1 b2.2 fG.au.ab hD.bb
 have b3:=b2.tr iZ
 obtain ⟨o,c4,su,e4⟩:=fg (R:=R) 6 (by decide) (by decide) c3 iZ.1
 have b4:=b3.tr su
 cases o with
 | true =>
  refine ⟨⟨⟨l3,fG.au.bF⟩,l1,l2⟩,c4,⟨h3,hD.bi,h1.1,h2.1,h1.2,h2.2⟩,b4,fun k=> ?_⟩
  simp only [qs]
  rw [qP hn]
  refine (e1 _).trans ((e2 _).trans ((e3 _).trans ?_))
  rw [b3.mk',e4,b4.mk']; rfl
 | false =>
  obtain ⟨p,c5,p1,p2,wu,e5⟩:=bj (R:=R) 16 (by decide) (by decide) c4 su.1
  have b5:=b4.tr wu
  obtain ⟨z,c6,z1,z2,It,e6⟩:=bj (R:=R) 17 (by decide) (by decide) c5 wu.1
  have b6:=b5.tr It
  have fW:(1+p-1).toNat<l2.length:=by rw [h2.1]; omega
  have aea:bp ⟨2,1,[1+p,z]⟩=true:=by
   simp only [bp,la (show (0:Int)<=2 by decide) (show (2:Int)<=2 by decide),la (show (0:Int)<=1 by decide) (show (1:Int)<=200 by decide),la (show 0<=1+p by omega) (show 1+p<=16 by omega),la z1 (show z<=16 by omega),List.all_cons,List.all_nil,zR,List.length_nil]
   rfl
  have hg0:(l1.set 0 ⟨2,1,[1+p,z]⟩).getD 0 az=⟨2,1,[1+p,z]⟩:=by rw [cK,if_pos ⟨rfl,by omega⟩]
  obtain ⟨c7,l7,Xm,h7,e7⟩:=Ps (R:=R) hn c.b c6 It.1 b6.2 (l1.set 0 ⟨2,1,[1+p,z]⟩) (1+p) (by omega) (by omega) (List.length_set.trans h1.1) (by rw [hg0]; rfl) (by rw [hg0]; rfl) (l2.set (1+p-1).toNat ⟨true,List.replicate 4 aq,eS⟩) (List.length_set.trans h2.1) (fun y hy=>by
   rcases mem_set hy with q | q
   ·exact h2.2 y q
   ·rw [q]; decide) (by rw [cK,if_pos ⟨rfl,fW⟩])
  have b7:=b6.tr Xm
  refine ⟨⟨⟨l3,fG.au.bF⟩,l1.set 0 ⟨2,1,[1+p,z]⟩,l7⟩,c7,⟨h3,hD.bi,List.length_set.trans h1.1,h7.1,fun y hy=> ?_,h7.2⟩,b7,fun k=> ?_⟩
  ·rcases mem_set hy with q | q
   ·exact h1.2 y q
   ·rw [q]; exact aea
  ·simp only [qs]
   rw [qP hn]
   refine (e1 _).trans ((e2 _).trans ((e3 _).trans ?_))
   rw [b3.mk',e4,zN,bH,b4.mk',e5,b5.mk',e6,bT (n:=1+p) (by omega) (by omega),aj (by rw [h1.1]; rfl)]
   simp only [hg0]
   rw [aj (by rw [List.length_set,h1.1]; rfl),aj (by rfl),yU,show ([1+p,z]:List Int).getD 0 0=1+p from rfl,bO (by omega) (by omega),aj (bz (by omega) (by rw [h2.1]; omega))]
   refine (e7 _).trans ?_
   rw [b7.mk']
theorem MX {n:Nat} (hn:bk<=n) (c:eF) (hc:ux c):∃ d c',lH d/\Cn c c'/\∀ k:aa->eF->Option R,ot n c k=k d c':=by
 obtain ⟨o,c1,cb,e1⟩:=fg (R:=R) 3 (by decide) (by decide) c hc
 cases o with
 | true =>
  obtain ⟨d,c2,hd,fy,e2⟩:=Mj (R:=R) hn c1 cb.1
  have b2:=cb.tr fy
  refine ⟨d,c2,hd,b2,fun k=> ?_⟩
  simp only [ot]
  rw [e1,bH,cb.mk',e2,b2.mk']
 | false =>
  obtain ⟨w,c2,fy,hw,hr,e2⟩:=K4 (R:=R) hn c1 cb.1
  have b2:=cb.tr fy
  obtain ⟨o2,c3,iZ,e3⟩:=fg (R:=R) 2 (by decide) (by decide) c2 fy.1
  have b3:=b2.tr iZ
  cases o2 with
  | true =>
   refine ⟨w.Fs.Mem.aa,c3,hw.fs.m.g.R.d,b3,fun k=> ?_⟩
   simp only [ot]
   rw [e1,bn,cb.mk',e2,b2.mk',e3,bH,oD hn _ hw.fs.m.g.R.d.t.sz,b3.mk']
  | false =>
   refine ⟨mS w.Fs.Device,c3,lH.of _,b3,fun k=> ?_⟩
   simp only [ot]
   rw [e1,bn,cb.mk',e2,b2.mk',e3,bn,MW hn _ (E1 hw.fs.d),b3.mk']
   simp only [E4,hw.fs.d,zE]
theorem xu {α:Type} (l:List α):sub l 1 (l.length-1)=l.drop 1:=by
 simp only [sub]; rw [List.take_of_length_le (by simp)]
theorem SW {n:Nat} (hn:bk<=n) (b:List UInt8) (c:eF) (hc:ux c) (hb:c.b=b) (l:List Bool) (hl:l.length<=1000):∃ c' l',Cn c c'/\l'.length=l.length/\∀ q:Int->Int->List Bool->Option R,iB b q n 0 c.i c.h l=q c'.i c'.h l':=by
 obtain ⟨c',s,lS,hI,e⟩:=iu (R:=R) (L:=fun q=>iB b q) (b:=b) (len:=l.length) (B:=0) (I:=fun i (s:List Bool)=>s.length=l.length) (by omega)
  (fun i c0 s hi h1 h2 h3=>by
   obtain ⟨o,c1,cb,e1⟩:=fg (R:=R) 2 (by decide) (by decide) c0 h1
   refine ⟨c1,s.set i o,cb,List.length_set.trans h3,fun q m _=> ?_⟩
   simp only [iB,h3]
   rw [bh,show decide (i<l.length)=true by rw [zD]; omega,bH,mg h2,e1,aF,show decide (i<l.length)=true by rw [zD]; omega,bc,zC])
  (fun q m c0 s h=>by simp [iB,h]) l.length 0 c l (by omega) hc hb rfl
 exact ⟨c',s,lS,hI,fun q=>e q n (aH hn (by omega))⟩
theorem RA {n:Nat} (hn:bk<=n) (b:List UInt8) (c:eF) (hc:ux c) (hb:c.b=b) (l:List Bool) (hl:l.length<=1000):∃ c' l',Cn c c'/\l'.length=l.length/\∀ q:Int->Int->List Bool->Option R,iE b q n 0 c.i c.h l=q c'.i c'.h l':=by
 obtain ⟨c',s,lS,hI,e⟩:=iu (R:=R) (L:=fun q=>iE b q) (b:=b) (len:=l.length) (B:=0) (I:=fun i (s:List Bool)=>s.length=l.length) (by omega)
  (fun i c0 s hi h1 h2 h3=>by
   obtain ⟨o,c1,cb,e1⟩:=fg (R:=R) 2 (by decide) (by decide) c0 h1
   refine ⟨c1,s.set i o,cb,List.length_set.trans h3,fun q m _=> ?_⟩
   simp only [iE,h3]
   rw [bh,show decide (i<l.length)=true by rw [zD]; omega,bH,mg h2,e1,aF,show decide (i<l.length)=true by rw [zD]; omega,bc,zC])
  (fun q m c0 s h=>by simp [iE,h]) l.length 0 c l (by omega) hc hb rfl
 exact ⟨c',s,lS,hI,fun q=>e q n (aH hn (by omega))⟩
theorem L5 {n:Nat} (hn:bk<=n) (c:eF) (hc:ux c):∃ (x:au) (c':eF),(x.ab.length<=16/\x.bF.length<=9)/\Cn c c'/\∀ k:au->eF->Option R,uo n c k=k x c':=by
 obtain ⟨c1,l1,cb,h1,e1⟩:=SW (R:=R) hn c.b c hc rfl (List.replicate 16 false) (by decide)
 obtain ⟨c2,l2,fy,h2,e2⟩:=RA (R:=R) hn c.b c1 cb.1 cb.2 ((List.replicate 8 false).set 0 true) (by decide)
 have b2:=cb.tr fy
 obtain ⟨o,c3,iZ,e3⟩:=fg (R:=R) 10 (by decide) (by decide) c2 fy.1
 have b3:=b2.tr iZ
 obtain ⟨o2,c4,su,e4⟩:=fg (R:=R) 10 (by decide) (by decide) c3 iZ.1
 have b4:=b3.tr su
 have h1:l1.length=16:=h1
 have h2:l2.length=8:=h2
 refine ⟨⟨bif o then l1.drop 1 else l1,bif o2 then l2++[true] else l2⟩,c4,⟨?_,?_⟩,b4,fun k=> ?_⟩
 ·cases o<;>simp [h1]
 ·cases o2<;>simp [h2]
 ·simp only [uo,mb]
  rw [aj (by rfl)]
  refine (e1 _).trans ((e2 _).trans ?_)
  have k1:qh 1 l1.length=true:=by rw [h1]; rfl
  have k2:bg (l2++[true])=true:=bZ (by rw [zK,h2]; simp)
  rw [b2.mk',e3,b3.mk',xu,k1,k2]
  simp only [e4,b4.mk',bc]
  cases o<;>cases o2<;>rfl
def MP (x:aV):Prop:=x.ay.length<=2/\(-1<=x.Kind/\x.Kind<=3)/\(-1<=x.Links/\x.Links<=201)/\∀ p∈x.ay,-1<=p/\p<=17
theorem MP.of {x:aV} (h:bp x=true):MP x:=by
 simp only [bp,zB,ak,beq_iff_eq,List.all_eq_true] at h
 obtain ⟨h1,h2,h3,h4,_⟩:=h
 refine ⟨by omega,by omega,by omega,fun p hp=> ?_⟩
 have:=(h4 p hp).1
 omega
theorem Dc (c:eF) (hc:ux c):∃ x c',MP x/\Cn c c'/\∀ k:aV->eF->Option R,nf c k=k x c':=by
 obtain ⟨x,c1,hx,cb,e1⟩:=AZ (R:=R) c hc
 obtain ⟨r,c2,r1,r2,fy,e2⟩:=bj (R:=R) 12 (by decide) (by decide) c1 cb.1
 have b2:=cb.tr fy
 have hl:=jD hx
 obtain ⟨a1,a2,a3,a4⟩:=MP.of hx
 by_cases h0:r=0
 ·obtain ⟨z,c3,hz,iZ,e3⟩:=fD (R:=R) [-1,0,3] (by decide) (by decide) c2 fy.1
  have b3:=b2.tr iZ
  simp only [zI,List.not_mem_nil,or_false] at hz
  refine ⟨⟨z,x.Links,x.ay⟩,c3,⟨a1,by show -1<=z/\z<=3; omega,a3,a4⟩,b3,fun k=> ?_⟩
  simp only [nf]
  rw [e1,cb.mk',e2,h0,show ((0:Int)==0)=true from rfl,bH,b2.mk',e3,b3.mk']
 ·by_cases h1:r=1
  ·obtain ⟨z,c3,hz,iZ,e3⟩:=fD (R:=R) [-1,0,200,201] (by decide) (by decide) c2 fy.1
   have b3:=b2.tr iZ
   simp only [zI,List.not_mem_nil,or_false] at hz
   refine ⟨⟨x.Kind,z,x.ay⟩,c3,⟨a1,a2,by show -1<=z/\z<=201; omega,a4⟩,b3,fun k=> ?_⟩
   simp only [nf]
   rw [e1,cb.mk',e2,h1,show ((1:Int)==0)=false from rfl,bn,show ((1:Int)==1)=true from rfl,bH,b2.mk',e3,b3.mk']
  ·by_cases h2:r=2
   ·obtain ⟨z,c3,hz,iZ,e3⟩:=fD (R:=R) [-1,16,17] (by decide) (by decide) c2 fy.1
    have b3:=b2.tr iZ
    simp only [zI,List.not_mem_nil,or_false] at hz
    refine ⟨⟨x.Kind,x.Links,x.ay.set 0 z⟩,c3,⟨by show (x.ay.set 0 z).length<=2; rw [List.length_set]; exact a1,a2,a3,fun p hp=> ?_⟩,b3,fun k=> ?_⟩
    ·rcases mem_set hp with q | q
     ·exact a4 p q
     ·rw [q]; omega
    ·simp only [nf]
     rw [e1,cb.mk',e2,h2,show ((2:Int)==0)=false from rfl,bn,show ((2:Int)==1)=false from rfl,bn,show ((2:Int)==2)=true from rfl,bH,b2.mk',e3,aj (by rw [hl]; rfl),b3.mk']
   ·by_cases h3:r=3
    ·refine ⟨⟨x.Kind,x.Links,x.ay.drop 1⟩,c2,⟨by show (x.ay.drop 1).length<=2; rw [List.length_drop]; omega,a2,a3,fun p hp=>a4 p (List.mem_of_mem_drop hp)⟩,b2,fun k=> ?_⟩
     simp only [nf]
     rw [e1,cb.mk',e2,h3,show ((3:Int)==0)=false from rfl,bn,show ((3:Int)==1)=false from rfl,bn,show ((3:Int)==2)=false from rfl,bn,show ((3:Int)==3)=true from rfl,bH,xu,aj (by rw [hl]; rfl),b2.mk']
    ·refine ⟨x,c2,⟨a1,a2,a3,a4⟩,b2,fun k=> ?_⟩
     simp only [nf]
     rw [e1,cb.mk',e2,beq_eq_false_iff_ne.2 h0,bn,beq_eq_false_iff_ne.2 h1,bn,beq_eq_false_iff_ne.2 h2,bn,beq_eq_false_iff_ne.2 h3,bn,b2.mk']
def Mx (b:Block):Prop:=b.ah.length<=4/\b.Text.size<=17/\∀ s∈b.ah,s.Name.size<=7/\ -1<=s.Ino/\s.Ino<=9
theorem vp {b:Block} (h:bA b=true) (hd:b.cf=false):b.ah=[]/\b.Text.size<=16:=by
 simp only [bA,hd,zF,zB,beq_iff_eq,zD] at h
 exact ⟨List.length_eq_zero_iff.1 h.1,h.2⟩
theorem Mx.of {b:Block} (h:bA b=true):Mx b:=by
 cases hd:b.cf with
 | false =>
  obtain ⟨h1,h2⟩:=vp h hd
  exact ⟨by rw [h1]; exact Nat.zero_le _,by omega,fun s hs=>by rw [h1] at hs; exact (List.not_mem_nil hs).elim⟩
 | true =>
  obtain ⟨h1,h2,h3,_⟩:=(pO hd).1 h
  refine ⟨by omega,by rw [h2]; decide,fun s hs=> ?_⟩
  obtain ⟨i,hi,rfl⟩:=List.mem_iff_getElem.1 hs
  have:=h3 i (by omega)
  rw [fq _ _ hi] at this
  rcases this with q | ⟨q1,q2,q3⟩
  ·rw [q]; decide
  ·have:=(eY q1).2; omega
theorem Dr {n:Nat} (hn:bk<=n) (c:eF) (hc:ux c):∃ x c',Mx x/\Cn c c'/\∀ k:Block->eF->Option R,kx n c k=k x c':=by
 obtain ⟨x,c1,hx,cb,e1⟩:=Bo (R:=R) hn c hc
 obtain ⟨r,c2,r1,r2,fy,e2⟩:=bj (R:=R) 12 (by decide) (by decide) c1 cb.1
 have b2:=cb.tr fy
 obtain ⟨a1,a2,a3⟩:=Mx.of hx
 have C7:∀ k:Block->Option R,mr x k=k x:=fun k=>vQ x (Nat.le_trans a1 (by decide)) k
 have TL:∀ (i:Nat) (s:Slot),(s.Name.size<=7/\ -1<=s.Ino/\s.Ino<=9)->∀ y∈x.ah.set i s,y.Name.size<=7/\ -1<=y.Ino/\y.Ino<=9:=fun i s hs y hy=>by
  rcases mem_set hy with q | q
  ·exact a3 y q
  ·rw [q]; exact hs
 have J6:0<x.ah.length->x.ah.length=4:=fun h=>by
  cases hd:x.cf with
  | false=>rw [(vp hx hd).1] at h; cases h
  | true=>exact mN hx hd
 by_cases h0:r=0
 ·refine ⟨⟨!x.cf,x.ah,x.Text⟩,c2,⟨a1,a2,a3⟩,b2,fun k=> ?_⟩
  simp only [kx]
  rw [e1,C7,cb.mk',e2,h0,show ((0:Int)==0)=true from rfl,bH,b2.mk']
 ·by_cases h1:r=1
  ·obtain ⟨z,c3,z1,z2,iZ,e3⟩:=bj (R:=R) 2 (by decide) (by decide) c2 fy.1
   have b3:=b2.tr iZ
   obtain ⟨zn,rfl⟩:=Int.eq_ofNat_of_zero_le z1
   obtain ⟨s,hs,e4⟩:=Ss (R:=R) hn (16+zn) (by omega) 65 (by decide) (by decide)
   refine ⟨⟨x.cf,x.ah,s⟩,c3,⟨a1,by show s.size<=17; omega,a3⟩,b3,fun k=> ?_⟩
   simp only [kx]
   rw [e1,C7,cb.mk',e2,h1,show ((1:Int)==0)=false from rfl,bn,show ((1:Int)==1)=true from rfl,bH,b2.mk',e3,show (16:Int)+(zn:Int)=((16+zn:Nat):Int) by omega,ei (n:=16+zn) (by omega),e4,b3.mk']
  ·by_cases h2:r=2
   ·by_cases hp:0<x.ah.length
    ·have h4:=J6 hp
     obtain ⟨z,c3,hz,iZ,e3⟩:=fD (R:=R) [-1,0,8,9] (by decide) (by decide) c2 fy.1
     have b3:=b2.tr iZ
     simp only [zI,List.not_mem_nil,or_false] at hz
     refine ⟨⟨x.cf,x.ah.set 1 ⟨(x.ah.getD 1 aq).Name,z⟩,x.Text⟩,c3,⟨by show (x.ah.set 1 _).length<=4; rw [List.length_set]; exact a1,a2,TL 1 _ ⟨(a3 _ (aU aq (by omega))).1,by show -1<=z; omega,by show z<=9; omega⟩⟩,b3,fun k=> ?_⟩
     simp only [kx]
     rw [e1,C7,cb.mk',e2,h2,show ((2:Int)==0)=false from rfl,bn,show ((2:Int)==1)=false from rfl,bn,show ((2:Int)==2)=true from rfl,bH,decide_eq_true (show (0:Int)<(x.ah.length:Int) by omega),bH,b2.mk',e3,aj (by rw [h4]; rfl),b3.mk']
    ·refine ⟨x,c2,⟨a1,a2,a3⟩,b2,fun k=> ?_⟩
     simp only [kx]
     rw [e1,C7,cb.mk',e2,h2,show ((2:Int)==0)=false from rfl,bn,show ((2:Int)==1)=false from rfl,bn,show ((2:Int)==2)=true from rfl,bH,decide_eq_false (show ¬ (0:Int)<(x.ah.length:Int) by omega),bn,b2.mk']
   ·by_cases h3:r=3
    ·by_cases hp:0<x.ah.length
     ·have h4:=J6 hp
      obtain ⟨z,c3,hz,iZ,e3⟩:=uz (R:=R) [eS,S [65],S [97],S [97,98,99,100,101,102,103]] (by decide) (by decide) c2 fy.1
      have b3:=b2.tr iZ
      have J9:z.size<=7:=by
       simp only [zI,List.not_mem_nil,or_false] at hz
       rcases hz with rfl | rfl | rfl | rfl<;>decide
      refine ⟨⟨x.cf,x.ah.set 0 ⟨z,(x.ah.getD 0 aq).Ino⟩,x.Text⟩,c3,⟨by show (x.ah.set 0 _).length<=4; rw [List.length_set]; exact a1,a2,TL 0 _ ⟨J9,(a3 _ (aU aq (by omega))).2⟩⟩,b3,fun k=> ?_⟩
      simp only [kx]
      rw [e1,C7,cb.mk',e2,h3,show ((3:Int)==0)=false from rfl,bn,show ((3:Int)==1)=false from rfl,bn,show ((3:Int)==2)=false from rfl,bn,show ((3:Int)==3)=true from rfl,bH,decide_eq_true (show (0:Int)<(x.ah.length:Int) by omega),bH,b2.mk',e3,aj (by rw [h4]; rfl),b3.mk']
     ·refine ⟨x,c2,⟨a1,a2,a3⟩,b2,fun k=> ?_⟩
      simp only [kx]
      rw [e1,C7,cb.mk',e2,h3,show ((3:Int)==0)=false from rfl,bn,show ((3:Int)==1)=false from rfl,bn,show ((3:Int)==2)=false from rfl,bn,show ((3:Int)==3)=true from rfl,bH,decide_eq_false (show ¬ (0:Int)<(x.ah.length:Int) by omega),bn,b2.mk']
    ·refine ⟨x,c2,⟨a1,a2,a3⟩,b2,fun k=> ?_⟩
     simp only [kx]
     rw [e1,C7,cb.mk',e2,beq_eq_false_iff_ne.2 h0,bn,beq_eq_false_iff_ne.2 h1,bn,beq_eq_false_iff_ne.2 h2,bn,beq_eq_false_iff_ne.2 h3,bn,b2.mk']
structure za (d:aa):Prop where
 bb:d.au.ab.length<=16
 bi:d.au.bF.length<=9
 di:d.ad.length=7\/d.ad.length=8
 db:d.ab.length=16
 ino:∀ x∈d.ad,MP x
 pd:∀ b∈d.ab,Mx b
theorem za.of {d:aa} (h:lH d):za d:=⟨by rw [h.bb]; decide,by rw [h.bi]; decide,.inr h.di,h.db,fun x hx=>MP.of (h.ino x hx),fun b hb=>Mx.of (h.pd b hb)⟩
theorem za.sz {d:aa} (h:za d):ja d:=by
 refine ⟨Nat.le_trans h.bb (by decide),Nat.le_trans h.bi (by decide),?_,by rw [h.db]; decide,fun x hx=>Nat.le_trans (h.ino x hx).1 (by decide),fun b hb=> ?_⟩
 ·rcases h.di with q | q<;>rw [q]<;>decide
 ·obtain ⟨a1,a2,a3⟩:=h.pd b hb
  exact ⟨Nat.le_trans a1 (by decide),Nat.le_trans a2 (by decide),fun s hs=>Nat.le_trans (a3 s hs).1 (by decide)⟩
theorem Fg {n:Nat} (hn:bk<=n) (c:eF) (hc:ux c):∃ x c',za x/\Cn c c'/\∀ k:aa->eF->Option R,mV n c k=k x c':=by
 obtain ⟨d,c1,hd,cb,e1⟩:=MX (R:=R) hn c hc
 obtain ⟨r,c2,r1,r2,fy,e2⟩:=bj (R:=R) 12 (by decide) (by decide) c1 cb.1
 have b2:=cb.tr fy
 have hA:=za.of hd
 have C7:∀ k:aa->Option R,jU n d k=k d:=fun k=>oD hn d hA.sz k
 by_cases h0:r=0
 ·obtain ⟨b,c3,hb,iZ,e3⟩:=L5 (R:=R) hn c2 fy.1
  have b3:=b2.tr iZ
  refine ⟨⟨b,d.ad,d.ab⟩,c3,⟨hb.1,hb.2,hA.di,hA.db,hA.ino,hA.pd⟩,b3,fun k=> ?_⟩
  simp only [mV]
  rw [e1,C7,cb.mk',e2,h0,show ((0:Int)==0)=true from rfl,bH,b2.mk',e3,b3.mk']
 ·by_cases h1:r=1
  ·obtain ⟨z,c3,z1,z2,iZ,e3⟩:=bj (R:=R) 8 (by decide) (by decide) c2 fy.1
   have b3:=b2.tr iZ
   obtain ⟨x,c4,hx,su,e4⟩:=Dc (R:=R) c3 iZ.1
   have b4:=b3.tr su
   refine ⟨⟨d.au,d.ad.set z.toNat x,d.ab⟩,c4,⟨hA.bb,hA.bi,by rw [List.length_set]; exact hA.di,hA.db,fun y hy=> ?_,hA.pd⟩,b4,fun k=> ?_⟩
   ·rcases mem_set hy with q | q
    ·exact hA.ino y q
    ·rw [q]; exact hx
   ·simp only [mV]
    rw [e1,C7,cb.mk',e2,h1,show ((1:Int)==0)=false from rfl,bn,show ((1:Int)==1)=true from rfl,bH,b2.mk',e3,b3.mk',e4,aj (by rw [hd.di]; simp only [aZ,zB,zD]; omega),b4.mk']
  ·by_cases h2:r=2
   ·obtain ⟨z,c3,z1,z2,iZ,e3⟩:=bj (R:=R) 16 (by decide) (by decide) c2 fy.1
    have b3:=b2.tr iZ
    obtain ⟨x,c4,hx,su,e4⟩:=Dr (R:=R) hn c3 iZ.1
    have b4:=b3.tr su
    refine ⟨⟨d.au,d.ad,d.ab.set z.toNat x⟩,c4,⟨hA.bb,hA.bi,hA.di,by rw [List.length_set]; exact hA.db,hA.ino,fun y hy=> ?_⟩,b4,fun k=> ?_⟩
    ·rcases mem_set hy with q | q
     ·exact hA.pd y q
     ·rw [q]; exact hx
    ·simp only [mV]
     rw [e1,C7,cb.mk',e2,h2,show ((2:Int)==0)=false from rfl,bn,show ((2:Int)==1)=false from rfl,bn,show ((2:Int)==2)=true from rfl,bH,b2.mk',e3,b3.mk',e4,aj (by rw [hd.db]; simp only [aZ,zB,zD]; omega),b4.mk']
   ·by_cases h3:r=3
    ·refine ⟨⟨d.au,d.ad.drop 1,d.ab⟩,c2,⟨hA.bb,hA.bi,.inl (by rw [List.length_drop,hd.di]),hA.db,fun y hy=>hA.ino y (List.mem_of_mem_drop hy),hA.pd⟩,b2,fun k=> ?_⟩
     simp only [mV]
     rw [e1,C7,cb.mk',e2,h3,show ((3:Int)==0)=false from rfl,bn,show ((3:Int)==1)=false from rfl,bn,show ((3:Int)==2)=false from rfl,bn,show ((3:Int)==3)=true from rfl,bH,xu,aj (by rw [hd.di]; rfl),b2.mk']
    ·refine ⟨d,c2,hA,b2,fun k=> ?_⟩
     simp only [mV]
     rw [e1,C7,cb.mk',e2,beq_eq_false_iff_ne.2 h0,bn,beq_eq_false_iff_ne.2 h1,bn,beq_eq_false_iff_ne.2 h2,bn,beq_eq_false_iff_ne.2 h3,bn,b2.mk']
structure Mu (m:Mem):Prop where
 d:za m.aa
 dy:20<=m.an.length/\m.an.length<=21
 dp:m.ae.length<=37
 nx:0<=m.Next/\m.Next<=100001
 dep:∀ x∈m.ae,nH x
theorem Mu.sz {m:Mem} (h:Mu m):ej m:=⟨h.d.sz,Nat.le_trans h.dy.2 (by decide),Nat.le_trans h.dp (by decide),h.dep⟩
theorem Mu.of {m:Mem} (h:ko m):Mu m:=by
 have:=h.g.R.n1
 have:=h.g.R.n2
 have:=h.g.R.dy
 have:=h.len
 exact ⟨za.of h.g.R.d,by omega,by omega,by omega,h.g.sz⟩
theorem OR {n:Nat} (hn:bk<=n) (c:eF) (hc:ux c):∃ w c',Cn c c'/\BS 28 w/\WR w/\∀ k:Mem->eF->Option R,xF n c k=k w.Fs.Mem c':=by
 obtain ⟨w,c1,cb,hw,hr,e1⟩:=K4 (R:=R) hn c hc
 refine ⟨w,c1,cb,hw,hr,fun k=> ?_⟩
 simp only [xF]
 rw [e1,cb.mk']
theorem HD {n:Nat} (hn:bk<=n) (c:eF) (hc:ux c):∃ x c',Mu x/\Cn c c'/\∀ k:Mem->eF->Option R,jm n c k=k x c':=by
 obtain ⟨w,c1,cb,hw,hr,e1⟩:=OR (R:=R) hn c hc
 obtain ⟨r,c2,r1,r2,fy,e2⟩:=bj (R:=R) 16 (by decide) (by decide) c1 cb.1
 have b2:=cb.tr fy
 have hI:=hw.fs.m
 generalize w.Fs.Mem=m at *
 have hA:=Mu.of hI
 have C7:∀ k:Mem->Option R,dB n m k=k m:=fun k=>ee hn m hA.sz k
 have hlen:=hI.len
 have Tm:=hI.g.R.dy
 by_cases h0:r=0
 ·obtain ⟨d,c3,hd,iZ,e3⟩:=Fg (R:=R) hn c2 fy.1
  have b3:=b2.tr iZ
  refine ⟨⟨d,m.an,m.ae,m.Next⟩,c3,⟨hd,hA.dy,hA.dp,hA.nx,hA.dep⟩,b3,fun k=> ?_⟩
  simp only [jm]
  rw [e1,C7,cb.mk',e2,h0,show ((0:Int)==0)=true from rfl,bH,b2.mk',e3,b3.mk']
 ·by_cases h1:r=1
  ·refine ⟨⟨m.aa,m.an.drop 1,m.ae,m.Next⟩,c2,⟨hA.d,by show 20<=(m.an.drop 1).length/\_; rw [List.length_drop]; omega,hA.dp,hA.nx,hA.dep⟩,b2,fun k=> ?_⟩
   simp only [jm]
   rw [e1,C7,cb.mk',e2,h1,show ((1:Int)==0)=false from rfl,bn,show ((1:Int)==1)=true from rfl,bH,xu,aj (by rw [Tm]; rfl),b2.mk']
  ·by_cases h2:r=2
   ·obtain ⟨z,c3,hz,iZ,e3⟩:=fD (R:=R) [0,1,100000,100001] (by decide) (by decide) c2 fy.1
    have b3:=b2.tr iZ
    simp only [zI,List.not_mem_nil,or_false] at hz
    refine ⟨⟨m.aa,m.an,m.ae,z⟩,c3,⟨hA.d,hA.dy,hA.dp,by show 0<=z/\z<=100001; omega,hA.dep⟩,b3,fun k=> ?_⟩
    simp only [jm]
    rw [e1,C7,cb.mk',e2,h2,show ((2:Int)==0)=false from rfl,bn,show ((2:Int)==1)=false from rfl,bn,show ((2:Int)==2)=true from rfl,bH,b2.mk',e3,b3.mk']
   ·by_cases h3:r=3
    ·by_cases hp:0<m.ae.length
     ·obtain ⟨x,c3,x1,x2,iZ,e3⟩:=bj (R:=R) (m.ae.length:Int) (by omega) (by omega) c2 fy.1
      have b3:=b2.tr iZ
      obtain ⟨y,c4,y1,y2,su,e4⟩:=bj (R:=R) 7 (by decide) (by decide) c3 iZ.1
      have b4:=b3.tr su
      obtain ⟨z,c5,hz,wu,e5⟩:=fD (R:=R) [-1,0,3,16,17] (by decide) (by decide) c4 su.1
      have b5:=b4.tr wu
      have z5:aZ x m.ae.length=true:=by simp only [aZ,zB,zD]; omega
      have NH:=hA.dep _ (aU aJ (show x.toNat<m.ae.length by omega))
      have hg:∀ y:bG,(m.ae.set x.toNat y).getD x.toNat aJ=y:=fun y=>by rw [cK,if_pos ⟨rfl,by omega⟩]
      refine ⟨⟨m.aa,m.an,(m.ae.set x.toNat { m.ae.getD x.toNat aJ with Kind:=y }).set x.toNat { m.ae.getD x.toNat aJ with Kind:=y,Block:=z },m.Next⟩,c5,⟨hA.d,hA.dy,by show List.length _<=37; rw [List.length_set,List.length_set]; exact hA.dp,hA.nx,fun d hd=> ?_⟩,b5,fun k=> ?_⟩
      ·rcases mem_set hd with q | q
       ·rcases mem_set q with q | q
        ·exact hA.dep d q
        ·rw [q]; exact NH
       ·rw [q]; exact NH
      ·simp only [jm]
       rw [e1,C7,cb.mk',e2,h3,show ((3:Int)==0)=false from rfl,bn,show ((3:Int)==1)=false from rfl,bn,show ((3:Int)==2)=false from rfl,bn,show ((3:Int)==3)=true from rfl,bH,
        decide_eq_true (show (0:Int)<(m.ae.length:Int) by omega),bH,b2.mk',e3,b3.mk',e4,aj z5,b4.mk',e5,List.length_set,aj z5,b5.mk']
       simp only [hg]
     ·refine ⟨m,c2,hA,b2,fun k=> ?_⟩
      simp only [jm]
      rw [e1,C7,cb.mk',e2,h3,show ((3:Int)==0)=false from rfl,bn,show ((3:Int)==1)=false from rfl,bn,show ((3:Int)==2)=false from rfl,bn,show ((3:Int)==3)=true from rfl,bH,
        decide_eq_false (show ¬ (0:Int)<(m.ae.length:Int) by omega),bn,b2.mk']
    ·by_cases h4:r=4
     ·by_cases hp:0<m.ae.length
      ·refine ⟨⟨m.aa,m.an,m.ae++[m.ae.getD 0 aJ],m.Next⟩,c2,⟨hA.d,hA.dy,by show List.length _<=37; rw [zK,zL]; omega,hA.nx,fun d hd=> ?_⟩,b2,fun k=> ?_⟩
       ·rcases zH.1 hd with q | q
        ·exact hA.dep d q
        ·rw [zS] at q; rw [q]; exact hA.dep _ (aU aJ hp)
       ·simp only [jm]
        rw [e1,C7,cb.mk',e2,h4,show ((4:Int)==0)=false from rfl,bn,show ((4:Int)==1)=false from rfl,bn,show ((4:Int)==2)=false from rfl,bn,show ((4:Int)==3)=false from rfl,bn,show ((4:Int)==4)=true from rfl,bH,
         decide_eq_true (show (0:Int)<(m.ae.length:Int) by omega),bH,aj (by simp only [aZ,zB,zD]; omega),aj (bZ (by rw [zK,zL]; omega)),b2.mk']
      ·refine ⟨m,c2,hA,b2,fun k=> ?_⟩
       simp only [jm]
       rw [e1,C7,cb.mk',e2,h4,show ((4:Int)==0)=false from rfl,bn,show ((4:Int)==1)=false from rfl,bn,show ((4:Int)==2)=false from rfl,bn,show ((4:Int)==3)=false from rfl,bn,show ((4:Int)==4)=true from rfl,bH,
         decide_eq_false (show ¬ (0:Int)<(m.ae.length:Int) by omega),bn,b2.mk']
     ·refine ⟨m,c2,hA,b2,fun k=> ?_⟩
      simp only [jm]
      rw [e1,C7,cb.mk',e2,beq_eq_false_iff_ne.2 h0,bn,beq_eq_false_iff_ne.2 h1,bn,beq_eq_false_iff_ne.2 h2,bn,beq_eq_false_iff_ne.2 h3,bn,beq_eq_false_iff_ne.2 h4,bn,b2.mk']
theorem OD {n:Nat} (hn:bk<=n) (code:List UInt8) (hc:code.length<=cM):∃ c:eF,ux c/\∀ k:eF->Option R,xB n code k=k c:=by
 have lS:code.length<=2097152:=hc
 have key:∀ (r i:Nat) (h:Int),i+r=code.length->∃ h':Int,∀ (q:Int->Option R) (m:Nat),r<m->jB code q m h (i:Int)=q h':=by
  intro r
  induction r with
  | zero =>
   intro i h h1
   refine ⟨h,fun q m hm=> ?_⟩
   match m,hm with
   | m+1,_ =>
    simp only [jB]
    rw [bh,show decide (i<code.length)=false by simp; omega,Bool.false_and,bn]
  | succ r ih =>
   intro i h h1
   by_cases h4:(i:Int)<4000
   ·obtain ⟨h',e⟩:=ih (i+1) (Bp .i64 (aA ((aA ((aA (h*131))+(aA (((code.getD (i:Int).toNat 0).toNat:Int)))))+7)) 1073741823) (by omega)
    refine ⟨h',fun q m hm=> ?_⟩
    match m,hm with
    | m+1,hm =>
     simp only [jB]
     rw [bh,show decide (i<code.length)=true by rw [zD]; omega,decide_eq_true h4,Bool.and_self,bH,aF,show decide (i<code.length)=true by rw [zD]; omega,bc,bL (by omega)]
     exact e q m (by omega)
   ·refine ⟨h,fun q m hm=> ?_⟩
    match m,hm with
    | m+1,_ =>
     simp only [jB]
     rw [decide_eq_false h4,Bool.and_false,bn]
 obtain ⟨h',e⟩:=key code.length 0 (aA (37701+(code.length:Int))) (by omega)
 refine ⟨⟨code,0,h'⟩,⟨Int.le_refl 0,hc⟩,fun k=> ?_⟩
 simp only [xB]
 exact e _ n (aH hn (by omega))
theorem kz {α:Type} (P:α->Bool) (x:α) (l:List α):(P x=true/\bB P (x::l)=0)\/(P x=false/\bB P l= -1/\bB P (x::l)= -1)\/(P x=false/\0<=bB P l/\bB P (x::l)=bB P l+1):=by
 simp only [bB]
 cases h:P x with
 | true=>exact .inl ⟨rfl,rfl⟩
 | false =>
  rcases gg P l with h | ⟨j,h,_⟩
  ·rw [h]; exact .inr (.inl ⟨rfl,rfl,rfl⟩)
  ·rw [h]; exact .inr (.inr ⟨rfl,by omega,rfl⟩)
theorem zp {α:Type} (P:α->Bool):∀ l:List α,decide (0<=bB P l)=l.any P
 | []=>rfl
 | x::l=>by
  have ih:=zp P l
  rw [List.any_cons]
  rcases kz P x l with ⟨h1,h2⟩ | ⟨h1,h2,h3⟩ | ⟨h1,h2,h3⟩
  ·rw [h2,h1]; rfl
  ·rw [h3,h1,← ih,h2]; rfl
  ·rw [h3,h1,← ih,decide_eq_true h2,decide_eq_true (by omega)]; rfl
theorem vI {α:Type} {L:Nat->Int->Option R} {l:List α} (d:α) {P:α->Bool} {e:Int->Option R} {B:Nat} (hl:l.length<=4611686018427387904)
  (hs:∀ m i,B<m->i<l.length->L (m+1) (i:Int)=bif P (l.getD i d) then e i else L m (aA ((i:Int)+1))) (hq:∀ m,L (m+1) (l.length:Int)=e (-1)) {n:Nat} (hn:l.length+B<n):L n 0=e (bB P l):=by
 have key:∀ (s:List α) (j m:Nat),s=l.drop j->j<=l.length->s.length+B<m->L m (j:Int)=e (if 0<=bB P s then (j:Int)+bB P s else -1):=by
  intro s
  induction s with
  | nil =>
   intro j m h1 h2 h3
   have:j=l.length:=by have:=congrArg List.length h1; simp at this; omega
   match m,h3 with
   | m+1,_=>rw [this,hq]; rfl
  | cons x s ih =>
   intro j m h1 h2 h3
   have hj:j<l.length:=by have:=congrArg List.length h1; simp at this; omega
   have hd:=cQ d hj
   rw [← h1] at hd; injection hd with hb Dy
   rw [zR] at h3
   match m,h3 with
   | m+1,h3 =>
    rw [hs m j (by omega) hj,← hb]
    rcases kz P x s with ⟨q1,q2⟩ | ⟨q1,q2,q3⟩ | ⟨q1,q2,q3⟩
    ·rw [q1,q2,if_pos (Int.le_refl 0),Int.add_zero]; rfl
    ·rw [q1,bn,bL (by omega),ih (j+1) m Dy (by omega) (by omega),q2,q3,if_neg (by decide),if_neg (by decide)]
    ·rw [q1,bn,bL (by omega),ih (j+1) m Dy (by omega) (by omega),q3,if_pos q2,if_pos (by omega)]
     congr 1; omega
 have:=key l 0 n (by simp) (by omega) hn
 rw [show ((0:Nat):Int)=0 from rfl] at this
 rw [this]
 congr 1
 rcases gg P l with h | ⟨j,h,_⟩
 ·rw [h]; rfl
 ·rw [h,if_pos (by omega)]; omega
theorem fe (x a b:Int) (k:Bool->Option R):dL x a b k=k (within x a b):=rfl
theorem oQ (l:List Bool) (h:l.length<=cM) (k:List Bool->Option R):kX l k=k l:=by
 have h:l.length<=2097152:=h
 simp only [kX,List.nil_append]; rw [aj (bZ (by omega))]
theorem vm (l:List Int) (h:l.length<=cM) (k:List Int->Option R):mn l k=k l:=by
 have h:l.length<=2097152:=h
 simp only [mn,List.nil_append]; rw [aj (bZ (by omega))]
theorem Ds (b:au) (h1:b.ab.length<=cM) (h2:b.bF.length<=cM) (k:au->Option R):rF b k=k b:=by
 simp only [rF]; rw [oQ _ h1,oQ _ h2]
theorem B5 (x:aV) (h:Az x) (k:aV->Option R):pt x k=k x:=by
 simp only [pt]; rw [vm _ h]
theorem CK (b:Block) (h:b.ah.length<=cM) (k:Block->Option R):px b k=k b:=by
 have h:b.ah.length<=2097152:=h
 simp only [px,List.nil_append]; rw [aj (bZ (by omega))]
theorem Dp {n:Nat} (hn:bk<=n) (d:aa) (hd:ja d) (k:aa->Option R):qB n d k=k d:=by
 have l1:d.ad.length<=2097152:=hd.di
 have l2:d.ab.length<=2097152:=hd.db
 simp only [qB]
 rw [Ds _ hd.bb hd.bi]
 have h2:=oC (R:=R) (L:=fO (d.ab.length:Int) d.ab (fun eM=>k ⟨d.au,d.ad,eM⟩)) (l:=d.ab) aC (f:=id) (B:=0) (q:=fun eM=>k ⟨d.au,d.ad,eM⟩) (by omega)
  (fun m i acc _ hi ha=>by
   simp only [fO,bh,aF,hi,zV,bc,zE,zC]
   rw [CK _ (hd.pd _ (aU aC hi)).1,aj (cm ha (by omega) (by simp))]; rfl) (fun m acc=>by simp only [fO,Int.lt_irrefl,decide_false,zF]) (n:=n) (aH hn (by omega))
 have h1:=oC (R:=R) (L:=iW (d.ad.length:Int) d.ad (fun v=>fO (d.ab.length:Int) d.ab (fun eM=>k ⟨d.au,v,eM⟩) n 0 [])) (l:=d.ad) az (f:=id) (B:=0) (q:=fun v=>fO (d.ab.length:Int) d.ab (fun eM=>k ⟨d.au,v,eM⟩) n 0 []) (by omega)
  (fun m i acc _ hi ha=>by
   simp only [iW,bh,aF,hi,zV,bc,zE,zC]
   rw [B5 _ (hd.ino _ (aU az hi)),aj (cm ha (by omega) (by simp))]; rfl) (fun m acc=>by simp only [iW,Int.lt_irrefl,decide_false,zF]) (n:=n) (aH hn (by omega))
 rw [List.map_id] at h1 h2
 exact h1.trans h2
theorem FX (d:bG) (h:d.ab.length<=cM) (k:bG->Option R):oa d k=k d:=by
 simp only [oa]; rw [vm _ h]
theorem Dq {n:Nat} (hn:bk<=n) (l:List bG) (hl:l.length<=cM) (hd:∀ d∈l,nH d) (k:List bG->Option R):qZ n l k=k l:=by
 have xX:l.length<=2097152:=hl
 simp only [qZ]
 have h2:=oC (R:=R) (L:=iR (l.length:Int) l k) (l:=l) aJ (f:=id) (B:=0) (q:=k) (by omega)
  (fun m i acc _ hi ha=>by
   simp only [iR,bh,aF,hi,zV,bc,zE,zC]
   rw [FX _ (hd _ (aU aJ hi)).2,aj (cm ha (by omega) (by simp))]; rfl) (fun m acc=>by simp only [iR,Int.lt_irrefl,decide_false,zF]) (n:=n) (aH hn (by omega))
 rw [List.map_id] at h2
 exact h2
theorem xC {n:Nat} (hn:bk<=n) (m:Mem) (hm:ej m) (k:Mem->Option R):qA n m k=k m:=by
 simp only [qA]
 rw [Dp hn _ hm.d,oQ _ hm.dy,Dq hn _ hm.dp hm.dep]
theorem FZ {n:Nat} (hn:bk<=n) (x:aV) (hx:Az x) (k:Bool->Option R):uO n x k=k (bp x):=by
 have Al:x.ay.length<=2097152:=hx
 simp only [uO,fe]
 have h:=fj (R:=R) (L:=jR (x.ay.length:Int) x.Kind x.ay (fun eH=>k eH) (k (((within x.Kind 0 2&&(bif within x.Kind 0 2 then within x.Links 0 200 else false))&&((x.ay.length:Int)==2))&&((!(x.Kind==0))||(x.Links==0))))) (l:=x.ay) 0 (B:=0)
  (P:=fun p=>within p 0 16&&(x.Kind != 0||p==0)) (e:=k false) (q:=k (((within x.Kind 0 2&&(bif within x.Kind 0 2 then within x.Links 0 200 else false))&&((x.ay.length:Int)==2))&&((!(x.Kind==0))||(x.Links==0)))) (by omega)
  (fun m i _ hi=>by
   simp only [jR,bh,aF,hi,zV,bc,zE,zC,fe,bne]
   cases within (x.ay.getD i 0) 0 16<;>cases x.Kind==0<;>cases x.ay.getD i 0==0<;>rfl) (fun m=>by simp [jR]) (n:=n) (aH hn (by omega))
 refine h.trans ?_
 rw [show (2:Int)=((2:Nat):Int) from rfl,cB]
 simp only [bp,bne]
 generalize (x.ay.all fun p=>within p 0 16&&(!x.Kind==0||p==0))=a
 have e:within x.Kind 0 ((2:Nat):Int)=within x.Kind 0 2:=rfl
 rw [e]
 generalize within x.Kind 0 2=b
 generalize within x.Links 0 200=c
 generalize (x.ay.length==2)=d
 cases a<;>cases b<;>cases c<;>cases d<;>cases x.Kind==0<;>cases x.Links==0<;>rfl
theorem yY {n:Nat} (hn:bk<=n) (s:ByteArray) (hs:s.size<=cM) (k:Bool->Option R):tz n s k=k (bN s):=by
 have CX:s.data.toList.length<=2097152:=hs
 simp only [tz,fe,bN]
 have:=fj (R:=R) (L:=lb s (s.size:Int) (fun x=>k x) (k (within s.size 1 6))) (l:=s.data.toList) 0 (B:=0) (P:=TN) (e:=k false) (q:=k (within s.size 1 6)) (by omega)
  (fun m i _ hi=>by
   have sx:i<s.size:=hi
   simp only [lb,bh,aF,sx,zV,Bool.or_true,bc,zE,zC,fe,TN]
   have hb:=zh s i
   rw [ei (by omega),HQ]
   generalize s.data.toList.getD i 0=x
   have e1:within ((x.toNat:Nat):Int) 97 122=(decide (97<=x.toNat)&&decide (x.toNat<=122)):=by
    simp only [within]; congr 1<;>exact decide_eq_decide.2 (by omega)
   have e2:within ((x.toNat:Nat):Int) 48 57=(decide (48<=x.toNat)&&decide (x.toNat<=57)):=by
    simp only [within]; congr 1<;>exact decide_eq_decide.2 (by omega)
   rw [e1,e2]
   generalize (decide (97<=x.toNat)&&decide (x.toNat<=122))=a
   generalize (decide (48<=x.toNat)&&decide (x.toNat<=57))=b
   cases a<;>cases b<;>rfl)
  (fun m=>by
   have:(s.data.toList.length:Int)=(s.size:Int):=rfl
   simp [lb,this]) (n:=n) (aH hn (by omega))
 refine this.trans ?_
 rw [Kl]; congr 1
 cases List.all s.data.toList TN<;>rfl
theorem GX {n:Nat} (hn:bk<=n) (b:Block) (hb:b.ah.length<=cM) (name:ByteArray) (k:Int->Option R):sM n b name k=k (dI b name):=by
 have J0:b.ah.length<=2097152:=hb
 simp only [sM,dI,eu]
 cases name==eS with
 | true=>rfl
 | false =>
  simp only [zF]
  exact vI (R:=R) (L:=fun m i=>bI (b.ah.length:Int) b.ah (fun x tO=>k x) (fun CW=>k (-1)) m i name) (l:=b.ah) aq (B:=0) (P:=fun s=>s.Name==name) (e:=k) (by omega)
   (fun m i _ hi=>by simp only [bI,vR,bh,aF,hi,zV,bc,zE,zC]) (fun m=>by simp [bI]) (aH hn (by omega))
theorem HJ (b:Block) (i:Nat) (hi:i<b.ah.length) (cT:((b.ah.getD i aq).Name==eS)=false):(dI b (b.ah.getD i aq).Name==(i:Int))=(List.range' 0 i).all fun k=> !((b.ah.getD k aq).Name==(b.ah.getD i aq).Name):=by
 simp only [dI,cT,zF]
 generalize hx:(b.ah.getD i aq).Name=x
 have key:∀ (l:List Slot) (i:Nat),i<l.length->(l.getD i aq).Name=x->(bB (fun s=>s.Name==x) l==(i:Int))=(List.range' 0 i).all fun k=> !((l.getD k aq).Name==x):=by
  intro l
  induction l with
  | nil=>intro i h; cases h
  | cons y l ih =>
   intro i h Xb
   cases i with
   | zero =>
    have:bB (fun s:Slot=>s.Name==x) (y::l)=0:=by
     have hy:y.Name=x:=Xb
     simp only [bB,hy,beq_self_eq_true,zE]
    rw [this]; rfl
   | succ i =>
    have h2:=ih i (by simpa using h) (by simpa using Xb)
    have hr:(List.range' 0 (i+1)).all (fun k=> !(((y::l).getD k aq).Name==x))=(!(y.Name==x)&&(List.range' 0 i).all fun k=> !((l.getD k aq).Name==x)):=by
     rw [List.range'_succ,List.all_cons]
     congr 1
     rw [show (0+1:Nat)=1 from rfl,← List.map_add_range' (a:=1) (s:=0),List.all_map]
     congr 1
     funext k
     simp [Nat.add_comm 1 k]
    rw [hr,← h2]
    rcases kz (fun s:Slot=>s.Name==x) y l with ⟨q1,q2⟩ | ⟨q1,q2,q3⟩ | ⟨q1,q2,q3⟩
    ·rw [q2,q1]
     have:((0:Int)==((i+1:Nat):Int))=false:=by rw [beq_eq_false_iff_ne]; omega
     rw [this]; rfl
    ·rw [q3,q1,q2]
     have e1:((-1:Int)==((i+1:Nat):Int))=false:=by rw [beq_eq_false_iff_ne]; omega
     have e2:((-1:Int)==(i:Int))=false:=by rw [beq_eq_false_iff_ne]; omega
     rw [e1,e2]; rfl
    ·rw [q3,q1]
     have:(bB (fun s:Slot=>s.Name==x) l+1==((i+1:Nat):Int))=(bB (fun s:Slot=>s.Name==x) l==(i:Int)):=by
      rw [Bool.eq_iff_iff,beq_iff_eq,beq_iff_eq]; omega
     rw [this]; rfl
 exact key b.ah i hi hx
theorem E3 {n:Nat} (hn:bk<=n) (b:Block) (hb:ur b) (k:Bool->Option R):uF n b k=k (bA b):=by
 have J0:b.ah.length<=2097152:=hb.1
 simp only [uF,bA]
 cases hd:b.cf with
 | false =>
  simp only [zN,zE,zF]
  congr 2
  ·exact cB b.ah.length 0
  ·exact decide_eq_decide.2 (by omega)
 | true =>
  simp only [zM,zE,zF]
  have hl:=kD (R:=R) (L:=ix n (b.ah.length:Int) true b.Text b.ah b.ah (fun x=>k x) (k (((b.ah.length:Int)==4)&&(b.Text==eS)))) (len:=b.ah.length) (B:=0) (p:=rY b.ah) (e:=k false) (q:=k (((b.ah.length:Int)==4)&&(b.Text==eS))) (by omega)
   (fun m i hm hi=>by
    have hn4:(b.ah.getD i aq).Name.size<=cM:=hb.2.2 _ (aU aq hi)
    simp only [ix,wT,fe,bh,aF,hi,zV,zE,bc,zC,rY]
    cases h1:(b.ah.getD i aq).Name==eS&&(b.ah.getD i aq).Ino==0 with
    | true=>rfl
    | false =>
     simp only [zF,Bool.false_or]
     rw [yY hn _ hn4]
     have hso:∀ k:Int->Option R,sM n ⟨true,b.ah,b.Text⟩ (b.ah.getD i aq).Name k=k (dI ⟨true,b.ah,b.Text⟩ (b.ah.getD i aq).Name):=fun k=>GX hn ⟨true,b.ah,b.Text⟩ hb.1 _ k
     rw [hso]
     cases CQ:bN (b.ah.getD i aq).Name with
     | false=>rfl
     | true =>
      have cT:((b.ah.getD i aq).Name==eS)=false:=beq_eq_false_iff_ne.2 (fT CQ)
      rw [← HJ ⟨true,b.ah,b.Text⟩ i hi cT]
      cases within (b.ah.getD i aq).Ino 1 8 with
      | false=>rfl
      | true =>
       simp only [zM,zN,zE,Bool.or_false,Bool.false_or,Bool.true_and]
       cases dI ⟨true,b.ah,b.Text⟩ (b.ah.getD i aq).Name==(i:Int)<;>rfl) (fun m=>by simp [ix]) b.ah.length n 0 (by omega) (aH hn (by omega))
  refine hl.trans ?_
  rw [show (4:Int)=((4:Nat):Int) from rfl,cB]
  cases h4:b.ah.length==4 with
  | false=>simp
  | true =>
   have ZT:b.ah.length=4:=by simpa using h4
   rw [ZT]
   show _=k ((true&&(b.Text==eS))&&yf b.ah)
   simp only [yf]
   cases List.all (List.range' 0 4) (rY b.ah)<;>cases b.Text==eS<;>rfl
theorem G4 {n:Nat} (hn:bk<=n) (d:aa) (hd:ja d) (k:Bool->Option R):xH n d k=k (lz d):=by
 have l1:d.ad.length<=2097152:=hd.di
 have l2:d.ab.length<=2097152:=hd.db
 simp only [xH,AN,lz,p9]
 have h2:=fj (R:=R) (L:=ij n (d.ab.length:Int) d.ab (fun x=>k x) (k ((((d.au.ab.length:Int)==16)&&((d.au.bF.length:Int)==8))&&((d.ad.length:Int)==8)&&((d.ab.length:Int)==16)))) (l:=d.ab) aC (B:=0) (P:=bA) (e:=k false) (q:=k ((((d.au.ab.length:Int)==16)&&((d.au.bF.length:Int)==8))&&((d.ad.length:Int)==8)&&((d.ab.length:Int)==16))) (by omega)
  (fun m i _ hi=>by
   simp only [ij,bh,aF,hi,zV,bc,zE,zC]
   rw [E3 hn _ (hd.pd _ (aU aC hi))]
   cases bA (d.ab.getD i aC)<;>rfl) (fun m=>by simp [ij]) (n:=n) (aH hn (by omega))
 have h1:=fj (R:=R) (L:=ld n (d.ad.length:Int) d.ad (fun x=>k x) (ij n (d.ab.length:Int) d.ab (fun x=>k x) (k ((((d.au.ab.length:Int)==16)&&((d.au.bF.length:Int)==8))&&((d.ad.length:Int)==8)&&((d.ab.length:Int)==16))) n 0)) (l:=d.ad) az (B:=0) (P:=bp) (e:=k false) (q:=ij n (d.ab.length:Int) d.ab (fun x=>k x) (k ((((d.au.ab.length:Int)==16)&&((d.au.bF.length:Int)==8))&&((d.ad.length:Int)==8)&&((d.ab.length:Int)==16))) n 0) (by omega)
  (fun m i _ hi=>by
   simp only [ld,bh,aF,hi,zV,bc,zE,zC]
   rw [FZ hn _ (hd.ino _ (aU az hi))]
   cases bp (d.ad.getD i az)<;>rfl) (fun m=>by simp [ld]) (n:=n) (aH hn (by omega))
 refine h1.trans ?_
 rw [h2,show (16:Int)=((16:Nat):Int) from rfl,show (8:Int)=((8:Nat):Int) from rfl,cB,cB,cB,cB]
 generalize (d.au.ab.length==16)=a
 generalize (d.au.bF.length==8)=b
 generalize (d.ad.length==8)=c
 generalize (d.ab.length==16)=e
 cases List.all d.ad bp<;>cases List.all d.ab bA<;>cases a<;>cases b<;>cases c<;>cases e<;>rfl
theorem sK {α:Type} {L:Nat->Int->Int->List α->Option R} (d:α) {P:α->Bool} {q:Int->List α->Option R}
  (hs:∀ m (i j:Nat) s,i<j->j<s.length->s.length<=2097152->L (m+1) (i:Int) (j:Int) s=bif !P (s.getD j d) then L m ((i+1:Nat):Int) ((j+1:Nat):Int) (s.set i (s.getD j d)) else L m (i:Int) ((j+1:Nat):Int) s)
  (hq:∀ m (i:Nat) s,L (m+1) (i:Int) (s.length:Int) s=q (i:Int) s):∀ (r j i:Nat) (s:List α) (m:Nat),j+r=s.length->i<j->s.length<=2097152->r<m ->
   ∃ s',s'.length=s.length/\i+((s.drop j).filter fun x=> !P x).length<=s.length/\s'.take (i+((s.drop j).filter fun x=> !P x).length)=s.take i++(s.drop j).filter (fun x=> !P x)/\L m (i:Int) (j:Int) s=q ((i+((s.drop j).filter fun x=> !P x).length:Nat):Int) s'
 | 0,j,i,s,m,h1,h2,h3,h4=>by
  have:j=s.length:=by omega
  subst this
  match m,h4 with
  | m+1,_ =>
   refine ⟨s,rfl,by simp; omega,by simp,?_⟩
   rw [hq]; simp
 | r+1,j,i,s,m,h1,h2,h3,h4=>by
  have hj:j<s.length:=by omega
  match m,h4 with
  | m+1,h4 =>
   have hd:=cQ d hj
   generalize hx:s.getD j d=x at hd
   have CX:=hs m i j s h2 hj h3
   rw [hx] at CX
   cases hP:P x with
   | true =>
    obtain ⟨s',a1,a2,a3,a4⟩:=sK d hs hq r (j+1) i s m (by omega) (by omega) h3 (by omega)
    have hf:(s.drop j).filter (fun x=> !P x)=(s.drop (j+1)).filter (fun x=> !P x):=by rw [hd,List.filter_cons,hP]; rfl
    rw [hf]
    refine ⟨s',a1,a2,a3,?_⟩
    rw [CX,hP]; exact a4
   | false =>
    obtain ⟨s',a1,a2,a3,a4⟩:=sK d hs hq r (j+1) (i+1) (s.set i x) m (by rw [List.length_set]; omega) (by omega) (by rw [List.length_set]; exact h3) (by omega)
    have hdr:(s.set i x).drop (j+1)=s.drop (j+1):=by
     rw [List.drop_set]; rw [if_pos (by omega)]
    rw [List.length_set] at a1 a2
    rw [hdr] at a2 a3 a4
    have hf:(s.drop j).filter (fun x=> !P x)=x::(s.drop (j+1)).filter (fun x=> !P x):=by rw [hd,List.filter_cons,hP]; rfl
    rw [hf,zR]
    have e1:i+((List.filter (fun x=> !P x) (List.drop (j+1) s)).length+1)=i+1+(List.filter (fun x=> !P x) (List.drop (j+1) s)).length:=by omega
    rw [e1]
    refine ⟨s',a1,a2,?_,?_⟩
    ·rw [a3,List.take_add_one,List.take_set_of_le (Nat.le_refl i)]
     rw [List.getElem?_set_self (by omega)]
     simp
    ·rw [CX,hP]; exact a4
theorem xx {α:Type} (P:α->Bool):∀ (l:List α) (j:Nat),bB P l=(j:Int)->l.filter (fun x=> !P x)=l.take j++(l.drop (j+1)).filter fun x=> !P x
 | [],j,h=>by simp [bB] at h
 | x::l,j,h=>by
  rcases kz P x l with ⟨q1,q2⟩ | ⟨q1,q2,q3⟩ | ⟨q1,q2,q3⟩
  ·rw [q2] at h
   have:j=0:=by omega
   subst this
   simp [List.filter_cons,q1]
  ·rw [q3] at h; omega
  ·obtain ⟨i,hi⟩:=Int.eq_ofNat_of_zero_le q2
   rw [q3,hi] at h
   have:j=i+1:=by omega
   subst this
   have ih:=xx P l i hi
   rw [List.filter_cons,q1]
   simp [ih]
theorem filter_none {α:Type} (P:α->Bool) (l:List α) (h:bB P l= -1):l.filter (fun x=> !P x)=l:=by
 refine List.filter_eq_self.2 fun x hx=> ?_
 have:=zp P l
 rw [h] at this
 have h2:l.any P=false:=this.symm
 rw [List.any_eq_false] at h2
 simpa using h2 x hx
def FW (K:List bG->Int->Option R) (i tO:Int) (Kf:List bG):Option R:=aK (qh i Kf.length)<|aK (qh i (Kf.take i.toNat++(List.replicate (Kf.length-i.toNat) aJ++Kf.drop (i.toNat+(Kf.length-i.toNat)))).length)<|K (sub (Kf.take i.toNat++(List.replicate (Kf.length-i.toNat) aJ++Kf.drop (i.toNat+(Kf.length-i.toNat)))) 0 i.toNat) tO
theorem IX {n:Nat} (hn:bk<=n) (s:List bG) (hm:s.length<=cM) (P:bG->Bool) (cap:Int) (K:List bG->Int->Option R)
  (IL:(Int->Int->Option R)->(Int->Option R)->Nat->Int->Int->Option R) (DL:(Int->Int->List bG->Option R)->Nat->Int->Int->Int->List bG->Option R)
  (hI:∀ q0 q1 m (i:Nat),i<s.length->IL q0 q1 (m+1) (i:Int) cap=bif P (s.getD i aJ) then q0 (i:Int) cap else IL q0 q1 m (aA ((i:Int)+1)) cap) (LN:∀ q0 q1 m,IL q0 q1 (m+1) (s.length:Int) cap=q1 cap)
  (hD:∀ q m (i j:Nat) (s:List bG),i<j->j<s.length->s.length<=2097152->DL q (m+1) (i:Int) (j:Int) cap s=bif !P (s.getD j aJ) then DL q m ((i+1:Nat):Int) ((j+1:Nat):Int) cap (s.set i (s.getD j aJ)) else DL q m (i:Int) ((j+1:Nat):Int) cap s)
  (hD':∀ q m (i:Nat) s,DL q (m+1) (i:Int) (s.length:Int) cap s=q (i:Int) cap s) (A:Int->Int->Option R)
  (hA:∀ r vo,A r vo=bif (r==(-1)) then K s vo else DL (FW K) n r (aA (r+1)) vo s) :
  IL (fun x c=>A x c) (fun c=>A (-1) c) n 0 cap=K (s.filter fun d=> !P d) cap:=by
 have J5:s.length<=2097152:=hm
 refine (vI (R:=R) (L:=fun m i=>IL (fun x c=>A x c) (fun c=>A (-1) c) m i cap) (l:=s) aJ (B:=0) (P:=P) (e:=fun i=>A i cap) (by omega)
   (fun m i _ hi=>hI _ _ m i hi) (fun m=>LN _ _ m) (aH hn (by omega))).trans ?_
 show A (bB P s) cap=_
 rcases gg P s with h | ⟨j,h,hj⟩
 ·rw [h,hA,show ((-1:Int)== -1)=true from rfl,bH,filter_none P s h]
 ·rw [h,hA,show (((j:Nat):Int)== -1)=false by rw [beq_eq_false_iff_ne]; omega,bn,bL (by omega)]
  obtain ⟨s',a1,a2,a3,a4⟩:=sK (R:=R) (L:=fun mm i j s=>DL (FW K) mm i j cap s) aJ (P:=P) (q:=fun i s=>FW K i cap s)
   (fun mm i j s Uh VY qe=>hD _ mm i j s Uh VY qe) (fun mm i s=>hD' _ mm i s) (s.length-(j+1)) (j+1) j s n (by omega) (by omega) (by omega) (aH hn (by omega))
  refine a4.trans ?_
  generalize hc:j+((s.drop (j+1)).filter fun x=> !P x).length=c at *
  have lS:c<=s'.length:=by omega
  rw [FW,zC,aj (by simp only [qh,zB,zD]; omega),aj (by simp only [qh,zB,zD,zK,List.length_take,List.length_replicate,List.length_drop]; omega)]
  have:sub (s'.take c++(List.replicate (s'.length-c) aJ++s'.drop (c+(s'.length-c)))) 0 c=s'.take c:=by
   simp only [sub,List.drop_zero]
   rw [List.take_append_of_le_length (by rw [List.length_take]; omega),List.take_take,Nat.min_self]
  rw [this,a3,← xx P s j h]
theorem Dv {n:Nat} (hn:bk<=n) (id:Int) (m:Mem) (hm:m.ae.length<=cM) (k:Mem->Option R):rf n id m k=k (bd m id):=by
 simp only [rf,dH,dX,bd]
 exact IX hn m.ae hm (fun d=>d.Id==id) id (fun r vo=>k ⟨m.aa,m.an,r,m.Next⟩) (bE (m.ae.length:Int) m.ae) bw
  (fun q0 q1 m i hi=>by simp only [bE,lF,bh,aF,hi,zV,bc,zE,zC]) (fun q0 q1 m=>by simp [bE])
  (fun q mm i j s Uh VY qe=>by
    simp only [bw,lF,bh,aF,VY,zV,zE,bc,zC]
    rw [show decide (i<s.length)=true by rw [zD]; omega,bc,bL (by omega),bL (by omega)])
  (fun q mm i s=>by simp [bw]) _ (fun r vo=>rfl)
theorem Fx {n:Nat} (hn:bk<=n) (m:Mem) (hm:ej m) (id:Int) (k:Mem->Option R):uk n m id k=k (bd m id):=by
 simp only [uk]
 rw [xC hn m hm,Dv hn id m hm.dp]; rfl
theorem Fa (d:aa) (hd:d.ab.length<=cM) (p:Int) (k:Block->Option R):ud d p k=k (cV d p).1:=by
 have z6:d.ab.length<=2097152:=hd
 simp only [ud,fe,cV]
 cases h:within p 1 d.ab.length with
 | false=>rfl
 | true =>
  rw [ak] at h
  simp only [zM,zF,zE]
  rw [bO (by omega) (by omega),aj (bz h.1 h.2)]; rfl
def FF (d:aa) (i:Int):aV:=bif within i 1 d.ad.length then ai d i else ⟨0,0,[]⟩
theorem E2 (d:aa) (hd:d.ad.length<=cM) (i:Int) (k:aV->Option R):tU d i k=k (FF d i):=by
 have z6:d.ad.length<=2097152:=hd
 simp only [tU,fe,FF]
 cases h:within i 1 d.ad.length with
 | false=>rfl
 | true =>
  rw [ak] at h
  simp only [zM,zF,zE]
  rw [bO (by omega) (by omega),aj (bz h.1 h.2)]; rfl
theorem Da {n:Nat} (hn:bk<=n) (m:Mem) (hm:m.ae.length<=cM) (id:Int) (k:Int->Option R):qM n m id k=k (bB (fun d=>d.Id==id) m.ae):=by
 have J5:m.ae.length<=2097152:=hm
 simp only [qM,dV]
 exact vI (R:=R) (L:=fun mm i=>bD (m.ae.length:Int) m.ae (fun x tO=>k x) (fun CW=>k (-1)) mm i id) (l:=m.ae) aJ (B:=0) (P:=fun d=>d.Id==id) (e:=k) (by omega)
   (fun mm i _ hi=>by simp only [bD,qR,bh,aF,hi,zV,bc,zE,zC]) (fun mm=>by simp [bD]) (aH hn (by omega))
theorem BY {α β:Type} [BEq β] (f:α->β) (d:α) (x:β):∀ (l:List α) (i:Nat),i<l.length->(f (l.getD i d)==x)=true->(bB (fun y=>f y==x) l==(i:Int))=(List.range' 0 i).all fun k=> !(f (l.getD k d)==x)
 | [],i,h,_=>by cases h
 | y::l,0,h,hx=>by
  have hy:(f y==x)=true:=hx
  have:bB (fun y=>f y==x) (y::l)=0:=by simp only [bB,hy,zE]
  rw [this]; rfl
 | y::l,i+1,h,hx=>by
  have h2:=BY f d x l i (by simpa using h) (by simpa using hx)
  have hr:(List.range' 0 (i+1)).all (fun k=> !(f ((y::l).getD k d)==x))=(!(f y==x)&&(List.range' 0 i).all fun k=> !(f (l.getD k d)==x)):=by
   rw [List.range'_succ,List.all_cons]
   congr 1
   rw [show (0+1:Nat)=1 from rfl,← List.map_add_range' (a:=1) (s:=0),List.all_map]
   congr 1
   funext k
   simp [Nat.add_comm 1 k]
  rw [hr,← h2]
  rcases kz (fun y=>f y==x) y l with ⟨q1,q2⟩ | ⟨q1,q2,q3⟩ | ⟨q1,q2,q3⟩
  ·rw [q2,q1]
   have:((0:Int)==((i+1:Nat):Int))=false:=by rw [beq_eq_false_iff_ne]; omega
   rw [this]; rfl
  ·rw [q3,q1,q2]
   have e1:((-1:Int)==((i+1:Nat):Int))=false:=by rw [beq_eq_false_iff_ne]; omega
   have e2:((-1:Int)==(i:Int))=false:=by rw [beq_eq_false_iff_ne]; omega
   rw [e1,e2]; rfl
  ·rw [q3,q1]
   have:(bB (fun y=>f y==x) l+1==((i+1:Nat):Int))=(bB (fun y=>f y==x) l==(i:Int)):=by
    rw [Bool.eq_iff_iff,beq_iff_eq,beq_iff_eq]; omega
   rw [this]; rfl
def A7 (m:Mem) (d:bG):Bool:=bJ m d&&(d.ab.all (fun p=>within p 1 16)&&cG m d)
theorem I2 {n:Nat} (hn:bk<=n) (m:Mem) (hm:ja m.aa) (hd:lH m.aa) (hnx:1<=m.Next/\m.Next<=100000) (d:bG) (hs:nH d) (k:Bool->Option R):Ax n m d k=k (A7 m d):=by
 have YA:d.ab.length<=2097152:=hs.2
 simp only [Ax,uG,wT,fe]
 rw [bO (x:=m.Next) (by omega) (by omega)]
 generalize hQ:(bif (((((!(within d.Id 1 (m.Next-1)&&_))||_)||_)||_)||_)||_ then _ else _:Option R)=Q
 have l1:=fj (R:=R) (L:=lZ (d.ab.length:Int) d.ab (fun x=>k x) Q) (l:=d.ab) 0 (B:=0) (P:=fun p=>within p 1 16) (e:=k false) (q:=Q) (by omega)
  (fun m' j _ hj=>by
   simp only [lZ,uG,fe,bh,aF,hj,zV,zE,bc,zC]
   cases within (d.ab.getD j 0) 1 16<;>rfl) (fun m'=>by simp [lZ]) (n:=n) (aH hn (by omega))
 refine l1.trans ?_
 simp only [A7]
 have hq:Q=k (bJ m d&&cG m d):=by
  rw [← hQ]
  simp only [bJ]
  cases h1:within d.Id 1 (m.Next-1); · rfl
  cases h7:within d.bx 0 (m.Next-1)
  ·simp only [Bool.and_false,Bool.false_and]; rfl
  cases h2:within d.Kind 1 6; · rfl
  cases h3:within d.Ino 1 8; · rfl
  cases h4:within d.Ptr 0 1; · rfl
  cases h5:within d.Block 0 16; · rfl
  cases h6:within d.Slot 0 3; · rfl
  simp only [zM,zN,zE,zF,Bool.or_false,Bool.true_and,Bool.and_true]
  rw [ak] at h3 h4 h5 h6
  rw [Fa _ hm.db]
  simp only [wc,tj]
  have Tr:FF m.aa d.Ino=ai m.aa d.Ino:=by
   simp only [FF,hd.di,show within d.Ino 1 ((8:Nat):Int)=true from ak.2 h3,zE]
  have jg:0<d.Block->(cV m.aa d.Block).1=aN m.aa d.Block:=fun h0=>by
   simp only [cV,hd.db,show within d.Block 1 ((16:Nat):Int)=true from ak.2 ⟨by omega,h5.2⟩,zE]
  have Wi:(ai m.aa d.Ino).ay.length=2:=hd.sd h3.1 h3.2
  simp only [cG]
  cases wq:(d.Kind==1)||(d.Kind==6) with
  | true =>
   simp only [zE]
   rw [E2 _ hm.di,Tr]
   cases h0:decide (0<d.Block) with
   | false=>rfl
   | true =>
    simp only [zE,zM,Bool.false_or,Bool.true_and]
    rw [aj (by rw [Wi]; simp only [aZ,zB,zD]; omega)]
  | false =>
   simp only [zF]
   cases so:(d.Kind==2)||(d.Kind==3) with
   | true =>
    simp only [zE]
    cases h0:decide (0<d.Block) with
    | false=>rfl
    | true =>
     rw [jg (of_decide_eq_true h0)]
     simp only [Bool.true_and]
     cases Im:(aN m.aa d.Block).cf with
     | false=>rfl
     | true =>
      have hB:lQ d.Block:=⟨of_decide_eq_true h0,h5.2⟩
      have h4s:=mN (hd.nM hB.1 hB.2) Im
      have z5:aZ d.Slot (aN m.aa d.Block).ah.length=true:=by rw [h4s]; simp only [aZ,zB,zD]; omega
      rw [z5]
      simp only [zM,Bool.false_or,Bool.or_true,bc,Bool.true_and]
      congr 1
      cases he:((aN m.aa d.Block).ah.getD d.Slot.toNat aq).Ino==d.Ino with
      | false=>rw [Bool.and_false]
      | true =>
       rw [beq_iff_eq] at he
       rw [Bool.and_true,Bool.not_eq_true',beq_eq_false_iff_ne]
       intro hz
       rcases hd.t.wH hB d.Slot.toNat with q | q
       ·have q':(aN m.aa d.Block).ah.getD d.Slot.toNat aq=aq:=q
        rw [q'] at he
        have UU:(0:Int)=d.Ino:=he
        omega
       ·exact fT q.2.2.1 hz
   | false =>
    simp only [zF]
    cases Nu:d.Kind==4 with
    | false=>rfl
    | true =>
     simp only [zE]
     rw [yY hn _ hs.1]
     cases h0:decide (0<d.Block) with
     | false=>rfl
     | true =>
      rw [jg (of_decide_eq_true h0)]
      cases (aN m.aa d.Block).cf<;>rfl
 rw [hq]
 cases List.all d.ab _<;>cases bJ m d<;>rfl
theorem SI (m:Mem) (i:Nat) (hi:i<m.ae.length):nF m i=(A7 m (m.ae.getD i aJ)&&(bB (fun d=>d.Id==(m.ae.getD i aJ).Id) m.ae==(i:Int))):=by
 rw [BY (fun d:bG=>d.Id) aJ _ m.ae i hi (beq_self_eq_true _)]
 simp only [nF,A7]
 cases bJ m (m.ae.getD i aJ)<;>cases List.all (m.ae.getD i aJ).ab _<;>cases List.all (List.range' 0 i) _<;>cases cG m (m.ae.getD i aJ)<;>rfl
theorem IH {n:Nat} (hn:bk<=n) (m:Mem) (hm:ej m) (k:Bool->Option R):AD n m k=k (fY m):=by
 have CP:m.ae.length<=2097152:=hm.dp
 simp only [AD,fe,fY]
 rw [G4 hn _ hm.d,show (21:Int)=((21:Nat):Int) from rfl,cB,show decide ((40:Int)<(m.ae.length:Int))= !decide (m.ae.length<=40) by by_cases h:m.ae.length<=40<;>simp [h]<;>omega]
 cases h1:lz m.aa; · rfl
 cases h2:m.an.length==21; · rfl
 cases h3:decide (m.ae.length<=40); · rfl
 cases h4:within m.Next 1 100000; · rfl
 simp only [zM,zN,zE,zF,Bool.or_false,Bool.true_and]
 rw [ak] at h4
 have hd:=kK.1 h1
 have:=kD (R:=R) (L:=mC n (m.ae.length:Int) m.Next m.ae m.aa.au.ab m.aa.au.bF m.aa.ad m.aa.ab m.an m.ae (fun x=>k x) (k true)) (len:=m.ae.length) (B:=0) (p:=nF m) (e:=k false) (q:=k true) (by omega)
  (fun m' j _ hj=>by
   simp only [mC,bh,aF,hj,zV,zE,bc,zC]
   refine (I2 hn m hm.d hd h4 _ (hm.dep _ (aU aJ hj)) _).trans ?_
   refine (Da hn m hm.dp _ _).trans ?_
   rw [SI m j hj]
   cases A7 m (m.ae.getD j aJ) with
   | false=>rfl
   | true =>
    simp only [zM,zN,zE,Bool.false_or,Bool.true_and]
    cases bB (fun d=>d.Id==(m.ae.getD j aJ).Id) m.ae==(j:Int)<;>rfl) (fun m'=>by simp [mC]) m.ae.length n 0 (by omega) (aH hn (by omega))
 refine this.trans ?_
 cases List.all _ (nF m)<;>rfl
def fv {α:Type} (f:α->α->Bool):List α->List α->Bool
 | [],[]=>true
 | a::x,b::y=>f a b&&fv f x y
 | _,_=>false
theorem DO {α:Type} {f:α->α->Bool}:∀ {x y:List α},fv f x y=true->x.length=y.length
 | [],[],_=>rfl
 | a::x,b::y,h=>by
  simp only [fv,zB] at h
  simp [DO h.2]
 | [],b::y,h=>by simp [fv] at h
 | a::x,[],h=>by simp [fv] at h
theorem m8 {α:Type} {f:α->α->Bool} {x y:List α} (h:x.length≠y.length):fv f x y=false:=by
 cases hs:fv f x y with
 | false=>rfl
 | true=>exact absurd (DO hs) h
theorem ir {α:Type} {f:α->α->Bool} (hf:∀ a,f a a=true):∀ x:List α,fv f x x=true
 | []=>rfl
 | a::x=>by simp only [fv,hf,ir hf x,Bool.and_self]
theorem zg {α:Type} (f:α->α->Bool) (d:α) (X Y:List α):∀ (x y:List α) (i:Nat),x=X.drop i->y=Y.drop i->x.length=y.length->(List.range' i x.length).all (fun j=>f (X.getD j d) (Y.getD j d))=fv f x y
 | [],[],i,_,_,_=>rfl
 | a::x,b::y,i,h1,h2,h3=>by
  have hx:i<X.length:=by have:=congrArg List.length h1; simp at this; omega
  have hy:i<Y.length:=by have:=congrArg List.length h2; simp at this; omega
  have d1:=cQ d hx
  have d2:=cQ d hy
  rw [← h1] at d1
  rw [← h2] at d2
  injection d1 with ha Al
  injection d2 with hb NA
  rw [zR,List.range'_succ,List.all_cons,← ha,← hb,zg f d X Y x y (i+1) Al NA (by simpa using h3)]
  rfl
theorem lg {α:Type} {L:Nat->Int->Option R} (f:α->α->Bool) (d:α) (x y:List α) {e q:Option R} (hl:x.length<=cM) (ND:x.length=y.length) {B:Nat}
  (hs:∀ m i,B<m->i<x.length->i<y.length->L (m+1) (i:Int)=bif f (x.getD i d) (y.getD i d) then L m (aA ((i:Int)+1)) else e) (hq:∀ m,L (m+1) (x.length:Int)=q)
  {n:Nat} (hn:x.length+B<n):L n 0=bif fv f x y then q else e:=by
 have xX:x.length<=2097152:=hl
 have:=kD (R:=R) (p:=fun i=>f (x.getD i d) (y.getD i d)) (by omega) (fun m i h1 h2=>hs m i h1 h2 (by omega)) hq x.length n 0 (by omega) hn
 rw [zg f d x y x y 0 rfl rfl ND] at this
 exact this
def pD (a b:aV):Bool:=(a.Kind==b.Kind&&a.Links==b.Links)&&fv (fun p q=>p==q) a.ay b.ay
def tn (a b:Slot):Bool:=a.Name==b.Name&&a.Ino==b.Ino
def pP (a b:Block):Bool:=(a.cf==b.cf&&a.Text==b.Text)&&fv tn a.ah b.ah
def qn (a b:aa):Bool:=((fv (fun p q=>p==q) a.au.ab b.au.ab&&fv (fun p q=>p==q) a.au.bF b.au.bF)&&fv pD a.ad b.ad)&&fv pP a.ab b.ab
theorem Dk (a:Slot):tn a a=true:=by simp [tn]
theorem EX (a:aV):pD a a=true:=by simp [pD,ir]
theorem FT (a:Block):pP a a=true:=by simp [pP,ir Dk]
theorem Dt (a:aa):qn a a=true:=by simp [qn,ir EX,ir FT,ir (f:=fun p q:Bool=>p==q) (fun a=>by simp)]
theorem rW {n:Nat} (hn:bk<=n) (a b:List Bool) (ha:a.length<=cM) (k:Bool->Option R):jn n a b k=k (fv (fun p q=>p==q) a b):=by
 have F5:a.length<=2097152:=ha
 simp only [jn,cB]
 by_cases h:a.length=b.length
 ·rw [beq_iff_eq.2 h,zM,bn]
  refine (lg (R:=R) (L:=fun m i=>fk a b (fun x=>k x) (k true) m i) (fun p q:Bool=>p==q) false a b (e:=k false) (q:=k true) ha h (B:=0)
   (fun m i _ h1 h2=>by
    simp only [fk,bh,aF,h1,h2,zV,zE,bc,zC]
    cases (a.getD i false==b.getD i false)<;>rfl) (fun m=>by simp [fk]) (aH hn (by omega))).trans ?_
  cases fv _ a b<;>rfl
 ·rw [beq_eq_false_iff_ne.2 h,m8 h]; rfl
theorem IG {n:Nat} (hn:bk<=n) (a b:aV) (ha:a.ay.length<=cM) (k:Bool->Option R):ub n a b k=k (pD a b):=by
 have F5:a.ay.length<=2097152:=ha
 simp only [ub,cB,pD]
 cases h1:a.Kind==b.Kind with
 | false=>rfl
 | true =>
  cases h2:a.Links==b.Links with
  | false=>rfl
  | true =>
   by_cases h:a.ay.length=b.ay.length
   ·rw [beq_iff_eq.2 h]
    simp only [zM,Bool.or_self,zF,Bool.and_self,Bool.true_and]
    refine (lg (R:=R) (L:=fun m i=>j5 a.ay b.ay (fun x=>k x) (k true) m i) (fun p q:Int=>p==q) 0 a.ay b.ay (e:=k false) (q:=k true) ha h (B:=0)
     (fun m i _ h1 h2=>by
      simp only [j5,bh,aF,h1,h2,zV,zE,bc,zC]
      cases (a.ay.getD i 0==b.ay.getD i 0)<;>rfl) (fun m=>by simp [j5]) (aH hn (by omega))).trans ?_
    cases fv _ a.ay b.ay<;>rfl
   ·rw [beq_eq_false_iff_ne.2 h,m8 h]; rfl
theorem Jv {n:Nat} (hn:bk<=n) (a b:Block) (ha:a.ah.length<=cM) (k:Bool->Option R):uJ n a b k=k (pP a b):=by
 have F5:a.ah.length<=2097152:=ha
 simp only [uJ,cB,pP]
 cases h1:a.cf==b.cf with
 | false=>rfl
 | true =>
  cases h2:a.Text==b.Text with
  | false=>rfl
  | true =>
   by_cases h:a.ah.length=b.ah.length
   ·rw [beq_iff_eq.2 h]
    simp only [zM,Bool.or_self,zF,Bool.and_self,Bool.true_and]
    refine (lg (R:=R) (L:=fun m i=>jX a.ah b.ah (fun x=>k x) (k true) m i) tn aq a.ah b.ah (e:=k false) (q:=k true) ha h (B:=0)
     (fun m i _ h1 h2=>by
      simp only [jX,bh,aF,h1,h2,zV,zE,bc,zC,tn]
      cases ((a.ah.getD i aq).Name==(b.ah.getD i aq).Name&&(a.ah.getD i aq).Ino==(b.ah.getD i aq).Ino)<;>rfl) (fun m=>by simp [jX]) (aH hn (by omega))).trans ?_
    cases fv _ a.ah b.ah<;>rfl
   ·rw [beq_eq_false_iff_ne.2 h,m8 h]; rfl
theorem Hs {n:Nat} (hn:bk<=n) (a b:aa) (ha:ja a) (k:Bool->Option R):rA n a b k=k (qn a b):=by
 have hi:a.ad.length<=2097152:=ha.di
 have hb:a.ab.length<=2097152:=ha.db
 simp only [rA,cB,qn]
 rw [rW hn _ _ ha.bb,rW hn _ _ ha.bi]
 cases fv _ a.au.ab b.au.ab with
 | false=>rfl
 | true =>
  cases fv _ a.au.bF b.au.bF with
  | false=>rfl
  | true =>
   by_cases h1:a.ad.length=b.ad.length
   ·by_cases h2:a.ab.length=b.ab.length
    ·rw [beq_iff_eq.2 h1,beq_iff_eq.2 h2]
     simp only [zM,zN,Bool.or_self,zF,zE,Bool.and_self,Bool.true_and]
     refine (lg (R:=R) (L:=fun m i=>iO n a.ad b.ad (fun x=>k x) (fM n a.ab b.ab (fun eH=>k eH) (k true) n 0) m i) pD az a.ad b.ad (e:=k false) (q:=fM n a.ab b.ab (fun eH=>k eH) (k true) n 0) ha.di h1 (B:=0)
      (fun m i _ h1 h2=>by
       simp only [iO,bh,aF,h1,h2,zV,zE,bc,zC]
       rw [IG hn _ _ (ha.ino _ (aU _ h1))]
       cases pD _ _<;>rfl) (fun m=>by simp [iO]) (aH hn (by omega))).trans ?_
     cases fv pD a.ad b.ad with
     | false=>rfl
     | true =>
      rw [bH]
      refine (lg (R:=R) (L:=fun m i=>fM n a.ab b.ab (fun eH=>k eH) (k true) m i) pP aC a.ab b.ab (e:=k false) (q:=k true) ha.db h2 (B:=0)
       (fun m i _ h1 h2=>by
        simp only [fM,bh,aF,h1,h2,zV,zE,bc,zC]
        rw [Jv hn _ _ (ha.pd _ (aU _ h1)).1]
        cases pP _ _<;>rfl) (fun m=>by simp [fM]) (aH hn (by omega))).trans ?_
      cases fv pP a.ab b.ab<;>rfl
    ·rw [beq_eq_false_iff_ne.2 h2,m8 h2]
     simp only [zM,zN,Bool.or_true,zE,Bool.and_false]
   ·rw [beq_eq_false_iff_ne.2 h1,m8 h1]
    simp only [zM,zN,Bool.or_true,Bool.true_or,zE,Bool.and_false,Bool.false_and]
def ua (a b:bG):Bool:=(((((((((a.Id==b.Id&&a.Kind==b.Kind)&&a.Ino==b.Ino)&&a.Ptr==b.Ptr)&&a.Block==b.Block)&&a.Slot==b.Slot)&&a.Name==b.Name)&&a.au==b.au)&&a.eJ==b.eJ)&&a.bx==b.bx)&&fv (fun p q=>p==q) a.ab b.ab
def Aq (a b:Mem):Bool:=((qn a.aa b.aa&&a.Next==b.Next)&&fv (fun p q=>p==q) a.an b.an)&&fv ua a.ae b.ae
theorem Fw (a:bG):ua a a=true:=by simp [ua,ir]
theorem wF (a:Mem):Aq a a=true:=by simp [Aq,Dt,ir Fw,ir (f:=fun p q:Bool=>p==q) (fun a=>by simp)]
theorem GN {n:Nat} (hn:bk<=n) (a b:List Int) (ha:a.length<=cM) (k:Bool->Option R):qG n a b k=k (fv (fun p q=>p==q) a b):=by
 have F5:a.length<=2097152:=ha
 simp only [qG,cB]
 by_cases h:a.length=b.length
 ·rw [beq_iff_eq.2 h,zM,bn]
  refine (lg (R:=R) (L:=fun m i=>iU a b (fun x=>k x) (k true) m i) (fun p q:Int=>p==q) 0 a b (e:=k false) (q:=k true) ha h (B:=0)
   (fun m i _ h1 h2=>by
    simp only [iU,bh,aF,h1,h2,zV,zE,bc,zC]
    cases (a.getD i 0==b.getD i 0)<;>rfl) (fun m=>by simp [iU]) (aH hn (by omega))).trans ?_
  cases fv _ a b<;>rfl
 ·rw [beq_eq_false_iff_ne.2 h,m8 h]; rfl
theorem Bu {n:Nat} (hn:bk<=n) (a b:Mem) (ha:ej a) (k:Bool->Option R):om n a b k=k (Aq a b):=by
 have hd:a.an.length<=2097152:=ha.dy
 have hp:a.ae.length<=2097152:=ha.dp
 simp only [om,cB,Aq]
 rw [Hs hn _ _ ha.d]
 cases qn a.aa b.aa with
 | false=>rfl
 | true =>
  cases a.Next==b.Next with
  | false=>rfl
  | true =>
   by_cases h1:a.an.length=b.an.length
   ·by_cases h2:a.ae.length=b.ae.length
    ·rw [beq_iff_eq.2 h1,beq_iff_eq.2 h2]
     simp only [zM,zN,Bool.or_self,zF,zE,Bool.and_self,Bool.true_and]
     refine (lg (R:=R) (L:=fun m i=>jL a.an b.an (fun x=>k x) (gL n a.ae b.ae (fun eH=>k eH) (k true) n 0) m i) (fun p q:Bool=>p==q) false a.an b.an (e:=k false) (q:=gL n a.ae b.ae (fun eH=>k eH) (k true) n 0) ha.dy h1 (B:=0)
      (fun m i _ h1 h2=>by
       simp only [jL,bh,aF,h1,h2,zV,zE,bc,zC]
       cases (a.an.getD i false==b.an.getD i false)<;>rfl) (fun m=>by simp [jL]) (aH hn (by omega))).trans ?_
     cases fv _ a.an b.an with
     | false=>rfl
     | true =>
      rw [bH]
      refine (lg (R:=R) (L:=fun m i=>gL n a.ae b.ae (fun eH=>k eH) (k true) m i) ua aJ a.ae b.ae (e:=k false) (q:=k true) ha.dp h2 (B:=0)
       (fun m i _ h1 h2=>by
        simp only [gL,bh,aF,h1,h2,zV,zE,bc,zC]
        rw [GN hn _ _ (ha.dep _ (aU _ h1)).2]
        generalize hs:fv _ (a.ae.getD i aJ).ab (b.ae.getD i aJ).ab=s
        simp only [ua,hs,← Bool.not_and]
        generalize ((((((((((a.ae.getD i aJ).Id==(b.ae.getD i aJ).Id&&(a.ae.getD i aJ).Kind==(b.ae.getD i aJ).Kind)&&_)&&_)&&_)&&_)&&_)&&_)&&_)&&_:Bool)=t
        cases t<;>cases s<;>rfl) (fun m=>by simp [gL]) (aH hn (by omega))).trans ?_
      cases fv ua a.ae b.ae<;>rfl
    ·rw [beq_eq_false_iff_ne.2 h2,m8 h2]
     simp only [zM,zN,Bool.or_true,zE,Bool.and_false]
   ·rw [beq_eq_false_iff_ne.2 h1,m8 h1]
    simp only [zM,zN,Bool.or_true,Bool.true_or,zE,Bool.and_false,Bool.false_and]
theorem VR (code:List UInt8) (f k:Bool->Option R) (h:code.length<=cM->f true=k true):(K7 code fun r=>bif r then k true else f true)=k true:=by
 simp only [K7]
 by_cases hb:(1048576:Int)<(code.length:Int)
 ·rw [decide_eq_true hb,bH]
 ·rw [decide_eq_false hb,bn]
  exact h (by show code.length<=2097152; omega)
theorem RB (a b:Bool):(a&&bif a then b else false)=(a&&b):=by cases a<;>rfl
theorem E6 (d:bG) (m:Mem) (hd:d.ab.length<=cM) (hm:m.ae.length<=cM) (k:Int->Mem->Option R):uE d m k=k (b8 m d).2 (b8 m d).1:=by
 have z6:d.ab.length<=2097152:=hd
 have J5:m.ae.length<=2097152:=hm
 simp only [uE,BI,oa,mn,fe,b8,dW,List.nil_append]
 have e1:decide ((m.ae.length:Int)<40)=decide (m.ae.length<40):=decide_eq_decide.2 (by omega)
 rw [e1,RB]
 cases h:decide (m.ae.length<40)&&within m.Next 1 99999 with
 | false=>rfl
 | true =>
  rw [zB,zD,ak] at h
  rw [bH,zM,bn,aj (bZ (by omega)),aj (bZ (by simp only [zK,zL]; omega)),bT (by omega) (by omega)]
theorem GS {n:Nat} (hn:bk<=n) (m:Mem) (hm:ej m) (d:bG) (hd:d.ab.length<=cM) (k:Mem->Int->Option R):xQ n m d k=k (b8 m d).1 (b8 m d).2:=by
 simp only [xQ]
 rw [xC hn m hm,E6 d m hd hm.dp]
 have:(b8 m d).1.aa=m.aa/\(b8 m d).1.an=m.an:=by
  simp only [b8]; cases dW m<;>exact ⟨rfl,rfl⟩
 rw [← this.1,← this.2]
theorem KJ {n:Nat} (b:List UInt8):∀ (j:Nat) (l:List bG) (c:eF),ux c->c.b=b->(∀ x∈l,nH x)->l.length+j=40 ->
  ∃ l' c',Cn c c'/\(∀ x∈l',nH x)/\l'.length<=40/\∀ (q:Int->Int->List bG->Option R) (mm:Nat),j<mm->fo b q mm c.i c.h l=q c'.i c'.h l'
 | 0,l,c,hc,hb,hl,hj=>by
  obtain ⟨r,c1,r1,r2,cb,e1⟩:=bj (R:=R) 2 (by decide) (by decide) c hc
  refine ⟨l,c1,cb,hl,by omega,fun q mm hm=> ?_⟩
  match mm,hm with
  | mm+1,_ =>
   simp only [fo]
   rw [mg hb,e1,bT (by omega) (by omega),decide_eq_false (by omega),bn]
 | j+1,l,c,hc,hb,hl,hj=>by
  obtain ⟨r,c1,r1,r2,cb,e1⟩:=bj (R:=R) 2 (by decide) (by decide) c hc
  by_cases h:(l.length:Int)<39+r
  ·obtain ⟨l',c',h1,h2,h3,h4⟩:=KJ (n:=n) b j (l++[⟨0,5,2,0,0,0,eS,false,false,0,[]⟩]) c1 cb.1 (cb.2.trans hb) (fun x hx=>by
    rcases zH.1 hx with hx | hx
    ·exact hl x hx
    ·rw [zS.1 hx]; exact ⟨Nat.zero_le _,Nat.zero_le _⟩) (by rw [zK,zL]; omega)
   refine ⟨l',c',cb.tr h1,h2,h3,fun q mm hm=> ?_⟩
   match mm,hm with
   | mm+1,hm =>
    simp only [fo]
    rw [mg hb,e1,bT (by omega) (by omega),decide_eq_true h,bH,aj (bZ (by rw [zK,zL]; omega))]
    exact h4 q mm (by omega)
  ·refine ⟨l,c1,cb,hl,by omega,fun q mm hm=> ?_⟩
   match mm,hm with
   | mm+1,_ =>
    simp only [fo]
    rw [mg hb,e1,bT (by omega) (by omega),decide_eq_false h,bn]
theorem IA {n:Nat} (hn:bk<=n) (code:List UInt8) (hc:code.length<=cM):∃ m d,ej m/\m.ae.length<=40/\nH d/\∀ k:Mem->bG->Option R,lK n code k=k m d:=by
 obtain ⟨c,h0,e0⟩:=OD (R:=R) hn code hc
 obtain ⟨m,c1,hm,cb,e1⟩:=HD (R:=R) hn c h0
 obtain ⟨o,c2,fy,e2⟩:=fg (R:=R) 8 (by decide) (by decide) c1 cb.1
 have b2:=cb.tr fy
 have V8:=hm.dp
 cases o with
 | true =>
  obtain ⟨l,c3,iZ,hl,Rk,e3⟩:=KJ (R:=R) (n:=n) c.b (40-m.ae.length) m.ae c2 b2.1 b2.2 hm.dep (by omega)
  have b3:=b2.tr iZ
  obtain ⟨r1,c4,_,_,su,e4⟩:=bj (R:=R) 5 (by decide) (by decide) c3 iZ.1
  have b4:=b3.tr su
  obtain ⟨r2,c5,_,_,wu,e5⟩:=bj (R:=R) 8 (by decide) (by decide) c4 su.1
  have b5:=b4.tr wu
  obtain ⟨r3,c6,_,_,It,e6⟩:=bj (R:=R) 9 (by decide) (by decide) c5 wu.1
  refine ⟨⟨m.aa,m.an,l,m.Next⟩,⟨0,aA (1+r1),aA (1+r2),0,r3,0,eS,false,false,0,[1,2]⟩,⟨hm.sz.d,hm.sz.dy,Nat.le_trans Rk (by decide),hl⟩,Rk,⟨Nat.zero_le _,by show 2<=2097152; omega⟩,fun k=> ?_⟩
  simp only [lK]
  rw [e0,e1,cb.mk',e2,bH,e3 _ n (aH hn (by omega)),b3.mk',e4,b4.mk',e5,b5.mk',e6]
 | false =>
  obtain ⟨r1,c4,_,_,su,e4⟩:=bj (R:=R) 5 (by decide) (by decide) c2 fy.1
  have b4:=b2.tr su
  obtain ⟨r2,c5,_,_,wu,e5⟩:=bj (R:=R) 8 (by decide) (by decide) c4 su.1
  have b5:=b4.tr wu
  obtain ⟨r3,c6,_,_,It,e6⟩:=bj (R:=R) 9 (by decide) (by decide) c5 wu.1
  refine ⟨m,⟨0,aA (1+r1),aA (1+r2),0,r3,0,eS,false,false,0,[1,2]⟩,hm.sz,by omega,⟨Nat.zero_le _,by show 2<=2097152; omega⟩,fun k=> ?_⟩
  simp only [lK]
  rw [e0,e1,cb.mk',e2,bn,b2.mk',e4,b4.mk',e5,b5.mk',e6]
theorem FC {α:Type} (p:α->Bool) (l:List α) (x:α) (h:p x=false):((l++[x]).filter p).length<=l.length:=by
 rw [List.filter_append,List.filter_cons,h]
 simp only [List.filter_nil,List.append_nil,Bool.false_eq_true,if_false]
 exact List.length_filter_le _ _
theorem I7 {n:Nat} (hn:bk<=n) (code:List UInt8) (k:Bool->Option R):xA n code k=k true:=by
 simp only [xA]
 refine VR code (fun _=>_) k fun hc=> ?_
 obtain ⟨m,d,hm,hl,hd,e1⟩:=IA (R:=R) hn code hc
 have hs:ej (b8 m d).1:=by
  simp only [b8]
  cases dW m with
  | false=>exact hm
  | true =>
   refine ⟨hm.d,hm.dy,?_,fun x hx=> ?_⟩
   ·rw [bH]; show (m.ae++[_]).length<=cM
    rw [zK,zL]
    show _<=2097152; omega
   ·rcases zH.1 hx with hx | hx
    ·exact hm.dep x hx
    ·rw [zS.1 hx]; exact hd
 rw [e1,GS hn m hm d hd.2,nX hn m hm d hd.2,Bu hn _ _ hs,wF,beq_self_eq_true]
 rw [zM,zN,bH,zM,Bool.or_self,bn]
 have hp:b8 m d=bif dW m then ({ m with ae:=m.ae++[{ d with Id:=m.Next }],Next:=m.Next+1 },m.Next) else (m,0):=rfl
 cases h:dW m with
 | false =>
  rw [h,bn] at hp
  rw [hp]
  show (bif ((0:Int)==0) then om n m m fun mG=>k mG else _)=_
  rw [show ((0:Int)==0)=true from rfl,bH,Bu hn _ _ hm,wF]
 | true =>
  rw [h,bH] at hp
  rw [dW,zB,zD,ak] at h
  generalize hx:(b8 m d).1=x at *
  generalize hi:(b8 m d).2=i at *
  rw [hp] at hx hi
  have hi:m.Next=i:=hi
  have hx:({ m with ae:=m.ae++[{ d with Id:=m.Next }],Next:=m.Next+1 }:Mem)=x:=hx
  have hlen:x.ae.length=m.ae.length+1:=by rw [← hx]; simp
  have Qb:(x.ae.getD m.ae.length aJ).Id=i:=by rw [← hx,← hi]; simp
  have tL:x.Next=i+1:=by rw [← hx,← hi]
  have adg:((bd x i).ae.length:Int)<=(m.ae.length:Int):=by
   have:=FC (fun e:bG=> !(e.Id==i)) m.ae { d with Id:=m.Next } (by simp [hi])
   rw [← hx]
   exact Int.ofNat_le.2 this
  rw [show (i==0)=false from beq_eq_false_iff_ne.2 (by omega),bn,Fx hn x hs,hlen]
  rw [show aA (((m.ae.length+1:Nat):Int)-1)=((m.ae.length:Nat):Int) by rw [bT (by omega) (by omega)]; omega,aF,decide_eq_true (by omega),bc,zC]
  rw [IH hn m hm,mY hn m hm,Qb,tL,bT (n:=(m.ae.length:Int)+1) (by omega) (by omega),bT (n:=i+1) (by omega) (by omega),decide_eq_true adg]
  rw [show (((m.ae.length+1:Nat):Int)==(m.ae.length:Int)+1)=true from beq_iff_eq.2 (by omega),beq_self_eq_true,beq_self_eq_true]
  generalize fY m=z
  cases z<;>rfl
end Go.Soft
namespace Go.Soft
open Go Go.ChangeShapes Go.WideShapes
theorem Mz {P:Program} {fits:TypeId->Bool}:∀ {d:Nat} {e:TypeId} {count off n:Nat},rowAt P fits d e count off n=true->off<=count*P.cellsOf e
 | 0,_,_,_,_,h=>by simp [rowAt] at h
 | d+1,e,count,off,n,h=>by
  simp only [rowAt] at h
  by_cases hs:P.cellsOf e=0
  ·simp [hs] at h
  ·rw [if_neg hs] at h
   have hdm:=Nat.div_add_mod off (P.cellsOf e)
   have NY:=Nat.mod_lt off (Nat.pos_of_ne_zero hs)
   simp only [Bool.or_eq_true,zB,beq_iff_eq,zD] at h
   rcases h with ⟨⟨h1,h2⟩,_⟩ | ⟨h1,_⟩
   ·have:off/P.cellsOf e<=count:=by omega
    have:=zP (P.cellsOf e) this
    rw [Nat.mul_comm] at hdm; omega
   ·have:=zP (P.cellsOf e) (show off/P.cellsOf e+1<=count from h1)
    rw [Nat.add_mul] at this
    rw [Nat.mul_comm] at hdm; omega
theorem CI {P:Program}:∀ {d:Nat} {e:TypeId} {count off:Nat} {u:TypeId} {n:Nat},liesAt P d e count off u n=true->off<=count*P.cellsOf e
 | 0,_,_,_,_,_,h=>by simp [liesAt] at h
 | d+1,e,count,off,u,n,h=>by
  simp only [liesAt,Bool.or_eq_true] at h
  rcases h with h | h
  ·exact Mz h
  ·revert h; split
   ·exact CI
   ·intro h; cases h
theorem Mo {P:Program} {W:Go.World} {r:Reach} {base:Nat} {a:Addr} {e:TypeId} {n:Nat} (h:W.has P r base a e n):a.spot=none/\∃ cur el fz,W.heap[a.block]? =some (.cells cur el fz)/\a.off<=cur.size:=by
 obtain ⟨_,hs,row,cells,Gl,hl⟩:=h
 refine ⟨hs,?_⟩
 simp only [Go.World.shape?] at Gl
 cases hb:W.heap[a.block]? with
 | none=>rw [hb] at Gl; cases Gl
 | some o =>
  rw [hb] at Gl
  cases o with
  | cells c el fz =>
   simp only [zA,zG] at Gl
   obtain ⟨rfl,rfl⟩:=Gl
   refine ⟨c,el,fz,rfl,?_⟩
   have:=CI hl
   have h2:=Nat.div_mul_le_self c.size (P.cellsOf el)
   omega
  | _=>cases Gl
theorem VU {W:Go.World} {a:Addr} {l:List Value} (h:W.cells? 0 a 1=some l):∃ x0,l=[x0]/\W.cell? (a.add 0)=some x0:=by
 simp only [Go.World.cells?,Nat.zero_le,if_true] at h
 have e4:List.range 1=[0]:=rfl
 rw [e4] at h
 simp only [List.mapM_cons,List.mapM_nil,Option.bind_eq_bind,Option.bind_eq_some_iff,Option.pure_def,zA] at h
 obtain ⟨x0,h0,r0,rfl,rfl⟩:=h
 exact ⟨x0,rfl,h0⟩
section
variable {H:Type} {enc:TypeId×Value->H} {P:Program} {W:Go.World}
theorem JO {t e:TypeId} (ht:P.underlying t=some (.slice e)) (he:P.underlying e=some (.int .u8)) (hc:P.cellsOf e=1)
  {base:Nat} {v:Value} {d:DataW H} {ps:List MemPlace} (xR:Value.okWide P W .any base t v) (h:DataW.Trod enc P W 0 (fun _=>true) true t v d ps) :
  ∃ (xs:List UInt8) (cs:List Value),wx (fun _=>True) W .byte xs v cs:=by
 classical
 obtain ⟨a0,len,cap,rfl⟩:=okWide_slice ht xR
 obtain ⟨fuel,hf⟩:=h
 rcases DataW.trod_slice ht hf with ⟨je,_⟩ | ⟨a,len',cap',elems,rest,n,_,je,_,_,hl,hm,hlen,NH,_,_⟩
 ·simp [Value.cells] at je
  obtain ⟨rfl,rfl,rfl⟩:=je
  exact ⟨[],[],⟨⟨rfl,.inl ⟨rfl,rfl⟩⟩,fun e c ct he=>by simp at he⟩⟩
 ·simp [Value.cells] at je
  obtain ⟨rfl,rfl,rfl⟩:=je
  have aec:W.has P .any base a e cap:=by
   simp only [Value.okWide,ht,Cell.okWide,Cell.ok] at xR
   exact xR.2.2
  obtain ⟨UN,cur,el,fz,hb,ZG⟩:=Mo aec
  obtain ⟨g,off,spot⟩:=a
  simp only at UN hb ZG; subst UN
  have node:∀ i,i<len->∃ x:UInt8,cur[off+i]? =some (.int .u8 (x.toNat:Int)):=by
   intro i hi
   have:=NH i hi
   rw [hc,List.getElem?_eq_getElem (by omega),Option.bind_eq_some_iff] at this
   obtain ⟨l,xX,hy⟩:=this
   obtain ⟨x0,rfl,c0⟩:=VU xX
   obtain ⟨z,hz,_,hw⟩:=DataW.trod_int he hy
   simp only [List.cons.injEq,and_true] at hz
   subst hz
   have hr:0<=z/\z<=255:=by
    simp only [Lit.wf,zB,zD] at hw
    exact ⟨hw.1,hw.2⟩
   refine ⟨UInt8.ofNat z.toNat,?_⟩
   have eO:W.cell? (Addr.add (Addr.add ⟨g,off,none⟩ (i*1)) 0)=cur[off+i]? :=by
    rw [jC,jC]
    simp only [Go.World.cell?,hb]
    rw [Nat.mul_one]; rfl
   rw [eO] at c0
   rw [c0]
   have:((UInt8.ofNat z.toNat).toNat:Int)=z:=by
    rw [UInt8.toNat_ofNat']; omega
   rw [this]
  let f:Nat->UInt8:=fun i=>if hi:i<len then Classical.choose (node i hi) else 0
  have Rx:∀ i,i<len->cur[off+i]? =some (.int .u8 ((f i).toNat:Int)):=by
   intro i hi
   have e:f i=Classical.choose (node i hi):=by show (if hi:i<len then Classical.choose (node i hi) else 0)=_; rw [dif_pos hi]
   rw [e]; exact Classical.choose_spec (node i hi)
  let xs:=(List.range len).map f
  have Rj:xs.length=len:=by simp [xs]
  have mH:off+len*1<=cur.size:=by
   by_cases Rv:len=0
   ·subst Rv; omega
   ·have:=Rx (len-1) (by omega)
    have:=(Array.getElem?_eq_some_iff.1 this).1
    omega
  refine ⟨xs,(cur.toList.drop off).take (len*1),⟨⟨?_,.inr ⟨g,off,cap,cur,el,fz,by rw [Rj],hb,trivial,by rw [Rj]; exact hl,by rw [Rj]; exact mH,by rw [Rj]; rfl⟩⟩,fun i c ct hi dk=> ?_⟩⟩
  ·rw [List.length_take,List.length_drop,Rj]; simp only [sz,Array.length_toList]; omega
  ·rw [Rj] at hi
   have TE:xs.getD i (cy .byte)=f i:=by simp [xs,hi]
   rw [TE] at dk
   have d0:=Rx i hi
   have ng:((cur.toList.drop off).take (len*1))[i*1]? =cur[off+i]? :=by
    rw [List.getElem?_take,if_pos (by omega),List.getElem?_drop]; simp
   simp only [cells] at dk
   have cb:c<1:=by have:=(zU.1 dk).1; simpa using this
   match c,cb,dk with
   | 0,_,dk =>
    simp at dk; subst dk
    exact ⟨_,ng.trans d0,rfl⟩
end
end Go.Soft
