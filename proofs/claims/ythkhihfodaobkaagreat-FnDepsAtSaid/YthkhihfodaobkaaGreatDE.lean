import Derived.Test.YthkhihfodaobkaaGreatDD
import Derived.ProofKit
set_option linter.constructorNameAsVariable false
set_option linter.unusedVariables false
set_option linter.unusedSimpArgs false
namespace Go.Soft
open Go
variable {e:Int} {X:List Int} {m:Mem} {d:aa}
def lC (l:List bE):Nat:=l.countP fun d=>d.Kind==4
structure j9 (m:Mem):Prop where
 g:Gd 0 [] m
 len:m.ae.length<=36
 S6:m.Next+lC m.ae<=99100
theorem Rv (l:List bE):lC l<=l.length:=List.countP_le_length
theorem j9.of (g:Gd 0 [] m) (h1:m.ae.length<=36) (h2:m.Next<=99064):j9 m:=⟨g,h1,by have:=Rv m.ae; omega⟩
theorem se:room m=true↔m.ae.length<=32/\m.Next<=99000:=by
 simp only [room,zB,zD]; omega
theorem AX (m:Mem) (x:bE):(dz m x).1.ae.length<=m.ae.length+1/\(dz m x).1.Next<=m.Next+1:=by
 simp only [dz]
 cases fq m with
 | false=>exact ⟨by simp,by simp only [zF]; omega⟩
 | true=>simp
theorem GC (i:Int) (m:Mem):(ix i m).ae.length<=m.ae.length+1/\(ix i m).Next<=m.Next+1:=by
 simp only [ix]
 cases decide (40<=(m.ae.length:Int))|| !within m.Next 1 99999 with
 | true=>exact ⟨by simp,by simp only [zE]; omega⟩
 | false =>
  simp only [zF]
  cases decide (0<(gz (ah m.aa i)).Links)||((gz (ah m.aa i)).Kind==0) with
  | true=>exact ⟨by simp,by simp only [zE]; omega⟩
  | false =>
   simp only [zF]
   have:=AX ⟨aR m.aa i (ba 0),bP (aM i) m.ak,m.ae.filter (stays i),m.Next⟩ ⟨0,5,i,0,0,0,eS,false,false,0,(ah m.aa i).ax.filter fun p=>decide (0<p)⟩
   exact ⟨Nat.le_trans this.1 (Nat.succ_le_succ (List.length_filter_le _ _)),this.2⟩
theorem DO (id b:Int) (m:Mem):(shown id b m).ae.length<=m.ae.length:=by
 simp only [shown,List.length_map]; exact List.length_filter_le _ _
theorem vS (m:Mem) (p s b:Int):(eD m p s b).ae.length<=m.ae.length+1/\(eD m p s b).Next<=m.Next+1:=by
 simp only [eD]
 cases (ie m (eY m p s)==2)||(ie m (eY m p s)==3) with
 | true =>
  simp only [zE]
  have:=GC (pJ m p s).Ino (shown (eY m p s) b (nj m p s))
  have h2:=DO (eY m p s) b (nj m p s)
  exact ⟨Nat.le_trans this.1 (Nat.succ_le_succ h2),this.2⟩
 | false=>exact AX _ _
theorem Gd.W4 (h:Gd e [] m) (hr:(aT m).2≠0):Gd e [] (aT m).1/\I8 (aT m).2/\Cr m.aa (aT m).2=false/\Cr (aT m).1.aa (aT m).2=true /\
  (aT m).1.ae=m.ae/\(aT m).1.Next=m.Next/\(aT m).1.aa.ad=m.aa.ad/\(aT m).1.aa.ab=m.aa.ab:=by
 have T:=h.T'
 revert hr
 simp only [aT]
 cases hz:firstFree m.aa.aq.bD==0 with
 | true=>intro hr; exact absurd rfl hr
 | false =>
  intro _
  simp only [zF,qB]
  rcases om m.aa.aq.bD with ⟨h1,_⟩ | ⟨j,h1,h2,h3,_⟩
  ·rw [h1] at hz; cases hz
  ·have hb:=T.bi
   rw [hb] at h2
   have hj:((firstFree m.aa.aq.bD)-1).toNat=j:=by omega
   have hB:I8 (firstFree m.aa.aq.bD):=⟨by omega,by omega⟩
   have hg:=h.bits (bb:=m.aa.aq.ab) (bi:=m.aa.aq.bD.set (firstFree m.aa.aq.bD-1).toNat true) T.bb (List.length_set.trans hb) (fun _ _ hh=>hh) (fun p hp hh=>by
    rw [cF]; split
    ·rfl
    ·exact hh)
   refine ⟨hg.bG ((cJ _ _).trans h.R.dy),hB,by simp only [Cr,hj]; exact h3,?_,trivial,trivial,trivial,trivial⟩
   simp only [Cr,cF]
   rw [if_pos ⟨trivial,by omega⟩]
theorem NW (T:cE d) {i k:Int} (hi:I8 i) (hk:k=1\/k=2) (h0:aU d i=0):(∀ j,I8 j->aU (aR d i (ba k)) j=if j=i then k else aU d j)/\(∀ j kk,I8 j->aW (aR d i (ba k)) j kk=aW d j kk) /\
  (∀ j,k9 (aR d i (ba k)) j=k9 d j)/\(∀ kk,aW d i kk=0)/\∀ p,p≠0->(mV (aR d i (ba k)) p↔mV d p):=by
 have hN:ba k=⟨k,1,[0,0]⟩:=by rcases hk with rfl | rfl<;>rfl
 have hz:∀ kk,([0,0]:List Int).getD kk 0=0:=fun kk=>by
  match kk with
  | 0=>rfl
  | 1=>rfl
  | n+2=>rfl
 have hold:∀ kk,aW d i kk=0:=fun kk=>by
  have h1:=T.sK hi.1 hi.2
  simp only [bx,zB,List.all_eq_true] at h1
  by_cases fM:kk<(ah d i).ax.length
  ·have:=(h1.2.2.2.1 _ (aY 0 fM)).2
   have h2:(ah d i).Kind=0:=h0
   rw [h2] at this
   have h3:((ah d i).ax.getD kk 0==0)=true:=this
   exact beq_iff_eq.1 h3
  ·simp [aW,zT,List.getElem?_eq_none (Nat.le_of_not_lt fM)]
 rw [hN]
 have iY:=fun {j} (hj:I8 j)=>dB T.di hi hj ⟨k,1,[0,0]⟩
 have nf:∀ j kk,I8 j->aW (aR d i ⟨k,1,[0,0]⟩) j kk=aW d j kk:=fun j kk hj=>by
  rw [eV T.di hi hj]; split
  ·next hh=>rw [hh,hold,hz]
  ·rfl
 have hO:∀ p,p≠0->(mV (aR d i ⟨k,1,[0,0]⟩) p↔mV d p):=fun p hp=>by
  constructor
  ·rintro ⟨j,kk,hj,a,b⟩
   rw [nf _ _ hj] at b; rw [iY hj] at a
   by_cases hh:j=i
   ·subst hh; rw [hold] at b; exact absurd b.symm hp
   ·rw [if_neg hh] at a; exact ⟨j,kk,hj,a,b⟩
  ·rintro ⟨j,kk,hj,a,b⟩
   have hh:j≠i:=fun hh=>by subst hh; rw [hold] at b; exact hp b.symm
   exact ⟨j,kk,hj,by rw [iY hj,if_neg hh]; exact a,by rw [nf _ _ hj]; exact b⟩
 have h8:(aR d i ⟨k,1,[0,0]⟩).ad.length=8:=List.length_set.trans T.di
 refine ⟨fun j hj=>iY hj,nf,fun j=>nT fun p hp=> ?_,hold,hO⟩
 have lJ:p≠0:=by obtain ⟨a,b⟩:=hp; omega
 simp only [j5]
 rw [xO T.di h8 lJ (hO p lJ)]; rfl
theorem x8 (h:Gd 0 [] m) {p:ByteArray} (hs:(ao p).2.2=true) (h0:aD m.aa p=0) (hw:aD m.aa (ao p).1≠0) (hk:aU m.aa (aD m.aa (ao p).1)=2) :
  I8 (aD m.aa (ao p).1)/\bN (ao p).2.1=true/\(aD m.aa (ao p).1=1\/k9 m.aa (aD m.aa (ao p).1)≠0) /\
  (∀ l t,aW m.aa (aD m.aa (ao p).1) l≠0->(cB m.aa (aW m.aa (aD m.aa (ao p).1) l) t).Name≠(ao p).2.1)/\∀ r,RK m.aa r->r (aD m.aa (ao p).1)<4:=by
 have T:=h.T'
 obtain ⟨l,x,e1,e2,e3,hx,hl,hl3⟩:=gW hs
 have ed:aD m.aa (ao p).1=cA m.aa 1 l:=by simp only [aD,e2,zE]
 have ep:aD m.aa p=bif within (find m.aa (cA m.aa 1 l) x).2.2 1 m.aa.ad.length then (find m.aa (cA m.aa 1 l) x).2.2 else 0:=by
  simp only [aD,e1,zE]; exact uG x l 1
 rw [ed] at hw hk ⊢
 rw [e3]
 have Wz:aU m.aa 1≠0:=by rw [h.g.rt]; decide
 obtain ⟨q1,q2,q3,q4⟩:=(Du T h.g l 1 hl ⟨by decide,by decide⟩ (.inl rfl) Wz).resolve_left hw
 refine ⟨q1,hx,q2,?_,fun r hr=> ?_⟩
 ·rcases vV T (w:=cA m.aa 1 l) hx with ⟨f1,f2⟩ | F
  ·exact f2 q1 hk fun k QH=>(h.g.pk _ k q1 QH).2 hk
  ·have h8:=F.i8
   rw [ep,T.di,show within (find m.aa (cA m.aa 1 l) x).2.2 1 ((8:Nat):Int)=true from aj.2 ⟨h8.1,h8.2⟩,zE] at h0
   obtain ⟨a,b⟩:=h8; omega
 ·have:=(q4 r hr hk).1
  rw [hr.1] at this; omega
theorem j9.make (h:j9 m) (p:ByteArray) (kind:Int):j9 (eT m p kind).1:=by
 have T:=h.g.T'
 simp only [eT]
 cases hc:((!gL m)||(!(ao p).2.2))||((!(kind==1))&&(!(kind==2))) with
 | true=>exact h
 | false =>
 cases bQ: !(aD m.aa p==0) with
 | true=>exact h
 | false =>
 cases eL:aD m.aa (ao p).1==0 with
 | true=>exact h
 | false =>
 cases hY: !((ah m.aa (aD m.aa (ao p).1)).Kind==2) with
 | true=>exact h
 | false =>
 cases uW:waits m (aD m.aa (ao p).1) (ao p).2.1 with
 | true=>exact h
 | false =>
 cases zj:((aT m).2==0)||(!room (aT m).1) with
 | true=>exact h
 | false =>
 simp only [zF]
 cases KM:(dL (je (aT m) kind) (aD m.aa (ao p).1) (ao p).2.1 (aT m).2).2==0 with
 | true=>exact h
 | false =>
 simp only [zF]
 simp only [Bool.or_eq_false_iff,Bool.not_eq_false',beq_eq_false_iff_ne,beq_iff_eq,Bool.and_eq_false_iff] at hc bQ eL hY zj
 have hk:kind=1\/kind=2:=hc.2
 obtain ⟨w1,w2,w3,w4,w5⟩:=x8 h.g hc.1.2 bQ eL hY
 obtain ⟨g1,i8,b0,b1,t1,t2,t3,t4⟩:=h.g.W4 zj.1
 have yX:=se.1 zj.2
 rw [t1,t2] at yX
 have QH:aU m.aa (aT m).2=0:=Decidable.byContradiction fun z=>by
  have:=h.g.g.Na _ i8 z
  rw [b0] at this; cases this
 have Yn:aU (aT m).1.aa (aT m).2=0:=by simp only [aU,ah,t3]; exact QH
 have hgl:=g1.je i8 hk Yn b1 fun x hx h5 hh=>by
  rw [t1] at hx
  have:=(h.g.fr x hx h5).2.1
  rw [hh,b0] at this; cases this
 have acK:=hgl.bG (y:=bP (aM (aT m).2) (aT m).1.ak) ((cJ _ _).trans g1.R.dy)
 have cR:aD m.aa (ao p).1≠(aT m).2:=fun z=>by
  have h2:aU m.aa (aD m.aa (ao p).1)=2:=hY
  rw [z,QH] at h2; exact absurd h2 (by decide)
 have T1:=g1.T'
 obtain ⟨l1,l2,l3,l4,l5⟩:=NW T1 i8 hk Yn
 have ek:∀ i,aU (aT m).1.aa i=aU m.aa i:=fun i=>by simp only [aU,ah,t3]
 have ep:∀ i k,aW (aT m).1.aa i k=aW m.aa i k:=fun i k=>by simp only [aW,ah,t3]
 have es:∀ q u,cB (aT m).1.aa q u=cB m.aa q u:=fun q u=>by simp only [cB,aO,t4]
 have ec:∀ i,k9 (aT m).1.aa i=k9 m.aa i:=ot T.di T1.di (fun i _=>ek i) (fun i k _=>ep i k) t4
 have Jy:(aT m).2≠0:=by obtain ⟨a,b⟩:=i8; omega
 have c0:∀ p s,lF p->mV m.aa p->(cB m.aa p s).Ino≠(aT m).2:=fun p s hp ho he=>by
  have:=(h.g.g.nm p s hp ho (by rw [he]; exact Jy)).1
  rw [he] at this; exact this QH
 have hI:L3 (je (aT m) kind) (aD m.aa (ao p).1) (ao p).2.1 (aT m).2:=by
  refine ⟨w1,?_,w2,i8,?_,?_,fun _=>⟨?_,?_,?_⟩⟩
  ·show aU (aR (aT m).1.aa (aT m).2 (ba kind)) _=2
   rw [l1 _ w1,if_neg cR,ek]; exact hY
  ·rcases w3 with z | z
   ·exact .inl z
   ·refine .inr ?_
    show k9 (aR (aT m).1.aa (aT m).2 (ba kind)) _≠0
    rw [l3,ec]; exact z
  ·intro l t
   show aW (aR (aT m).1.aa (aT m).2 (ba kind)) _ l≠0->(cB (aT m).1.aa (aW (aR (aT m).1.aa (aT m).2 (ba kind)) _ l) t).Name≠_
   rw [l2 _ _ w1,ep,es]; exact w4 l t
  ·intro k
   show aW (aR (aT m).1.aa (aT m).2 (ba kind)) _ k=0
   rw [l2 _ _ i8]; exact l4 k
  ·show k9 (aR (aT m).1.aa (aT m).2 (ba kind)) _=0
   rw [l3,ec]; exact (T.FL Jy).2 c0
  ·intro r hr
   refine w5 r ⟨hr.1,fun a k s ha hb hz hd he=> ?_⟩
   have Nk:a≠(aT m).2:=fun z=>by rw [z,QH] at hb; exact absurd hb (by decide)
   have:=hr.2 a k s ha
   have e1:aU (je (aT m) kind).aa a=2:=by
    show aU (aR (aT m).1.aa (aT m).2 (ba kind)) _=2
    rw [l1 _ ha,if_neg Nk,ek]; exact hb
   have e2:aW (je (aT m) kind).aa a k=aW m.aa a k:=by
    show aW (aR (aT m).1.aa (aT m).2 (ba kind)) _ k=_
    rw [l2 _ _ ha,ep]
   have e3:∀ q u,cB (je (aT m) kind).aa q u=cB m.aa q u:=fun q u=>es q u
   rw [e2,e3] at this
   refine this e1 hz hd ?_
   show aU (aR (aT m).1.aa (aT m).2 (ba kind)) _=2
   rw [l1 _ (T.Cq (T.gV ha hz) hd),if_neg (c0 _ s (T.gV ha hz) ⟨a,k,ha,hb,rfl⟩),ek]; exact he
 have Sz:(je (aT m) kind).ae.length=m.ae.length:=by show (aT m).1.ae.length=_; rw [t1]
 have Zl:(je (aT m) kind).Next=m.Next:=t2
 have P:=(qq (m:=je (aT m) kind) acK (by rw [Sz]; omega) (by rw [Zl]; omega) hI).resolve_left (by simpa using KM)
 have p1:=P.len
 have p2:=P.nx
 rw [Sz] at p1; rw [Zl] at p2
 exact j9.of P.g (by omega) (by omega)
theorem j9.text (h:j9 m) (p:ByteArray) (x:Int) (s:ByteArray):j9 (jD m p x s).1:=by
 have T:=h.g.T'
 have uX:=h.g.R.n1
 simp only [jD]
 cases hc:(((!gL m)||(!(aN p).2))||(!within x 0 1))||(decide (16<(s.size:Int))) with
 | true=>exact h
 | false =>
 cases bQ:aD m.aa p==0 with
 | true=>exact h
 | false =>
 cases eL: !((ah m.aa (aD m.aa p)).Kind==1) with
 | true=>exact h
 | false =>
 simp only [zF]
 simp only [Bool.or_eq_false_iff,Bool.not_eq_false',beq_eq_false_iff_ne,beq_iff_eq,decide_eq_false_iff_not,aj] at hc bQ eL
 have w8:I8 (aD m.aa p):=((ld T.di p).resolve_left bQ)
 have hk:aU m.aa (aD m.aa p)=1:=eL
 have mi:s.size<=16:=by have:=hc.2; omega
 generalize aD m.aa p=w at *
 have hx:=hc.1.2
 cases hb:(ah m.aa w).ax.getD x.toNat 0==0 with
 | false =>
  simp only [zF]
  have VX:aW m.aa w x.toNat≠0:=by simpa [aW] using hb
  exact ⟨(h.g.text w8 hk rfl VX mi).bG ((cJ _ _).trans h.g.R.dy),h.len,h.S6⟩
 | true =>
  simp only [zE]
  cases hY:((aV m).2==0)||(!room m) with
  | true=>exact h
  | false =>
  simp only [zF]
  simp only [Bool.or_eq_false_iff,Bool.not_eq_false',beq_eq_false_iff_ne] at hY
  have yX:=se.1 hY.2
  obtain ⟨g1,F,Hu⟩:=h.g.take hY.1
  obtain ⟨t1,t2,t3,t4⟩:=sB m
  generalize aV m=t at *
  have VX:aW m.aa w x.toNat=0:=beq_iff_eq.1 hb
  have ek:aU t.1.aa w=1:=by simp only [aU,ah,t3]; exact hk
  have ep:aW t.1.aa w x.toNat=0:=by simp only [aW,ah,t3]; exact VX
  have hmp:fq t.1=true:=cV.2 ⟨by rw [t1]; omega,by rw [t2]; omega,by rw [t2]; omega⟩
  have zl:=g1.grow hmp w8 (by rw [ek]; decide) (x:=x.toNat) (by omega) ep F.b Hu F.p F.f F.n (b:=⟨false,[],s⟩) (by simp only [bF,zF]; simp [mi]) (by rw [ek]; simp) (fun s=>rfl)
  have Ti:((x.toNat:Nat):Int)=x:=Int.toNat_of_nonneg hx.1
  have pS:pz (sC t w x) t.2 s=⟨(kx t.1 w x.toNat t.2 ⟨false,[],s⟩).aa,bP (aE t.2) (bP (aM w) t.1.ak),(kx t.1 w x.toNat t.2 ⟨false,[],s⟩).ae,t.1.Next+1⟩:=by
   have:=kL (m:=⟨aR t.1.aa w (gC (ah t.1.aa w) x.toNat t.2),bP (aM w) t.1.ak,t.1.ae,t.1.Next⟩) hmp ⟨0,1,w,x,t.2,0,eS,false,false,0,[]⟩
   simp only [sC,this,pz,kx,Ti]; rfl
  rw [pS]
  have hgg:=zl.bG (y:=bP (aE t.2) (bP (aM w) t.1.ak)) ((cJ _ _).trans ((cJ _ _).trans g1.R.dy))
  refine j9.of hgg ?_ ?_
  ·show (t.1.ae++[_]).length<=36
   rw [zK,zL,t1]; omega
  ·show t.1.Next+1<=_; rw [t2]; omega
theorem IQ (T:cE d) (g:DG d) {j:Int} (hj:I8 j) (h:o7 d j=[]):∀ k t,aU d j=2->aW d j k≠0->(cB d (aW d j k) t).Ino=0:=by
 intro k t hk h0
 have hB:=T.gV hj h0
 have hd:=(g.pk j k hj h0).2 hk
 simp only [o7,T.di,show within j 1 ((8:Nat):Int)=true from aj.2 ⟨hj.1,hj.2⟩,show (ah d j).Kind=2 from hk,Bool.true_and,beq_self_eq_true,zE,List.flatMap_eq_nil_iff] at h
 have h1:=h (aW d j k) ((mM h0).2 ⟨k,rfl⟩)
 have hb:dw d (aW d j k)=(aO d (aW d j k),true):=by
  simp only [dw,T.db,show within (aW d j k) 1 ((16:Nat):Int)=true from aj.2 ⟨hB.1,hB.2⟩,zE]
 rw [hb] at h1
 simp only [o6,hd,zE,List.map_eq_nil_iff,List.filter_eq_nil_iff] at h1
 rcases T.yQ hB t with z | z
 ·rw [z]; rfl
 ·have h4:=dg (T.n9 hB.1 hB.2) z.2.1
  have:=h1 (cB d (aW d j k) t) (aY au (by omega))
  have h5:(cB d (aW d j k) t).Name=eS:=by simpa using this
  exact absurd h5 (gU z.2.2.1)
theorem j9.remove (h:j9 m) (p:ByteArray):j9 (ig m p).1:=by
 have T:=h.g.T'
 have uX:=h.g.R.n1
 simp only [ig]
 cases hc:(!gL m)||(!(ao p).2.2) with
 | true=>exact h
 | false =>
 simp only [Bool.or_eq_false_iff,Bool.not_eq_false'] at hc
 simp only [zF,tn]
 obtain ⟨l,x,e1,e2,e3,hx,hl,hl3⟩:=gW hc.2
 rw [e3]
 cases bQ:(find m.aa (aD m.aa (ao p).1) x).2.2==0 with
 | true=>exact h
 | false =>
 have F:=(vV T (w:=aD m.aa (ao p).1) hx).resolve_left (fun z=>by rw [z.1] at bQ; cases bQ)
 generalize find m.aa (aD m.aa (ao p).1) x=f at *
 simp only [zF]
 cases eL:((decide (0<((o7 m.aa f.2.2).length:Int)))||(((ah m.aa f.2.2).Kind==2)&&held m f.2.2))||(!room m) with
 | true=>exact h
 | false =>
 simp only [zF]
 simp only [Bool.or_eq_false_iff,Bool.not_eq_false',decide_eq_false_iff_not] at eL
 have yX:=se.1 eL.2
 have Zl:o7 m.aa f.2.2=[]:=List.length_eq_zero_iff.1 (by have:=eL.1.1; omega)
 have hI:(cB m.aa f.1 f.2.1.toNat).Ino=f.2.2:=by rw [F.sl]
 have MY:=F.i8
 have QK:(cB m.aa f.1 f.2.1.toNat).Ino≠0:=by rw [hI]; obtain ⟨a,b⟩:=MY; omega
 have hg:=h.g.eD (cV.2 ⟨by omega,uX,by omega⟩) F.b F.own F.s.1 F.s.2 QK (by rw [hI]; exact IQ T h.g.g MY Zl) (b:=0) (.inl rfl)
 have Sz:=vS m f.1 f.2.1 0
 exact j9.of hg (by omega) (by omega)
theorem j9.move (h:j9 m) (p q:ByteArray):j9 (ju m p q).1:=by
 have T:=h.g.T'
 have uX:=h.g.R.n1
 simp only [ju]
 cases hc:((!gL m)||(!(ao p).2.2))||(!(ao q).2.2) with
 | true=>exact h
 | false =>
 simp only [Bool.or_eq_false_iff,Bool.not_eq_false'] at hc
 simp only [zF,xY]
 obtain ⟨l,x,e1,e2,e3,hx,hl,hl3⟩:=gW hc.1.2
 rw [e3]
 cases bQ:((find m.aa (aD m.aa (ao p).1) x).2.2==0)||(aD m.aa (ao q).1==0) with
 | true=>exact h
 | false =>
 simp only [Bool.or_eq_false_iff] at bQ
 have F:=(vV T (w:=aD m.aa (ao p).1) hx).resolve_left (fun z=>by rw [z.1] at bQ; exact absurd bQ.1 (by decide))
 generalize find m.aa (aD m.aa (ao p).1) x=f at *
 simp only [zF]
 cases eL:(!((ah m.aa f.2.2).Kind==1))||(!((ah m.aa (aD m.aa (ao q).1)).Kind==2)) with
 | true=>exact h
 | false =>
 simp only [zF]
 cases hY: !(aD m.aa q==0) with
 | true=>exact h
 | false =>
 simp only [zF]
 cases uW:waits m (aD m.aa (ao q).1) (ao q).2.1||deep m (ao q).1 with
 | true=>exact h
 | false =>
 simp only [zF]
 cases zj: !room m with
 | true=>exact h
 | false =>
 simp only [zF]
 cases KM:decide (200<=(ah m.aa f.2.2).Links) with
 | true=>exact h
 | false =>
 simp only [zF,E9]
 cases Wp:(dL (cU m f.2.2) (aD m.aa (ao q).1) (ao q).2.1 f.2.2).2==0 with
 | true=>exact h
 | false =>
 simp only [zF]
 simp only [Bool.or_eq_false_iff,Bool.not_eq_false',beq_eq_false_iff_ne,beq_iff_eq,decide_eq_false_iff_not] at bQ eL hY uW zj KM Wp
 have yX:=se.1 zj
 obtain ⟨w1,w2,w3,w4,w5⟩:=x8 h.g hc.2 hY bQ.2 eL.2
 have MY:=F.i8
 have vQ:aU m.aa f.2.2=1:=eL.1
 have hgm:=h.g.Oj MY vQ (by show (ah m.aa f.2.2).Links<200; omega)
 have MG:=hgm.bG (y:=bP (aM f.2.2) m.ak) ((cJ _ _).trans h.g.R.dy)
 have ek:∀ i,I8 i->aU (cU m f.2.2).aa i=aU m.aa i:=fun i hi=>by
  show aU (aR m.aa f.2.2 _) i=_
  rw [dB T.di MY hi]; split
  ·next z=>rw [z]; rfl
  ·rfl
 have ep:∀ i k,I8 i->aW (cU m f.2.2).aa i k=aW m.aa i k:=fun i k hi=>by
  show aW (aR m.aa f.2.2 _) i k=_
  rw [eV T.di MY hi]; split
  ·next z=>rw [z]; rfl
  ·rfl
 have es:∀ q u,cB (cU m f.2.2).aa q u=cB m.aa q u:=fun q u=>rfl
 have eo:=n5 ek ep
 have ec:=ot T.di (MG.T'.di) ek ep rfl
 have TC:L3 (cU m f.2.2) (aD m.aa (ao q).1) (ao q).2.1 f.2.2:=by
  refine ⟨w1,by rw [ek _ w1]; exact eL.2,w2,MY,?_,?_,fun z=>by rw [ek _ MY,vQ] at z; exact absurd z (by decide)⟩
  ·rcases w3 with z | z
   ·exact .inl z
   ·exact .inr (by show k9 (cU m f.2.2).aa _≠0; rw [show k9 (cU m f.2.2).aa _=k9 m.aa _ from ec _]; exact z)
  ·intro l t; rw [ep _ _ w1,es]; exact w4 l t
 have P:=(qq (m:=cU m f.2.2) MG (by show m.ae.length<=38; omega) (by show m.Next<=99998; omega) TC).resolve_left Wp
 generalize dL (cU m f.2.2) (aD m.aa (ao q).1) (ao q).2.1 f.2.2=t at *
 have hI:(cB m.aa f.1 f.2.1.toNat).Ino=f.2.2:=by rw [F.sl]
 have Vr:f.2.2≠0:=by obtain ⟨a,b⟩:=MY; omega
 have ho:=F.own
 have hB:=F.b
 have Wn:f.1≠0:=by obtain ⟨a,b⟩:=hB; omega
 have SD:mV (cU m f.2.2).aa f.1:=(eo _).2 ho
 have hs1:cB t.1.aa f.1 f.2.1.toNat=cB m.aa f.1 f.2.1.toNat:=P.same _ _ hB SD (by rw [es,hI]; exact Vr)
 have KP:(cB t.1.aa f.1 f.2.1.toNat).Ino=f.2.2:=by rw [hs1,hI]
 obtain ⟨dp,ds,Wv,hd2,MT⟩:=P.dep
 have hl1:=P.len
 have MR:=P.nx
 have ae4:t.1.ae.length<=m.ae.length+2:=hl1
 have afG:t.1.Next<=m.Next+2:=MR
 have hg:=P.g.eD (cV.2 ⟨by omega,P.g.R.n1,by omega⟩) hB (P.own _ Wn SD) F.s.1 F.s.2 (by rw [KP]; exact Vr) (by
  rw [KP]; intro k u z; rw [P.kind _ MY,ek _ MY,vQ] at z; exact absurd z (by decide)) (b:=t.2) (.inr ⟨_,Wv,rfl,.inl rfl,by rw [KP]; rfl,fun z=>by
   rcases uY P.g.R f.1 f.2.1 with ⟨z1,_⟩ | ⟨y,hy,z1,z2,z3,z4,_⟩
   ·rw [z1] at z
    have:=(eA (P.g.R.num _ Wv)).1.1
    have this':1<=t.2:=this
    omega
   ·have:=pQ P.g.R.ids Wv hy (z.trans z4)
    rw [← this] at z2 z3
    have z2':dp=f.1:=z2
    have z3':ds=f.2.1:=z3
    have:=MT (by rw [z2']; exact SD)
    rw [z2',z3',es,F.sl] at this
    exact Vr (congrArg Slot.Ino this)⟩)
 have Sz:=vS t.1 f.1 f.2.1 t.2
 exact j9.of hg (by omega) (by omega)
theorem LW (h:fC m) {z:bE} (hz:z∈m.ae) (h4:z.Kind=4):lC (aQ m z.Id).ae+1=lC m.ae:=by
 have:=qG h.ids hz (fun d=>d.Kind==4)
 rw [h4] at this; exact this
theorem GJ (h:fC m) {z:bE} (hz:z∈m.ae):(aQ m z.Id).ae.length+1=m.ae.length:=by
 have:=qG h.ids hz (fun _=>true)
 simp only [zE,List.countP_true] at this; exact this
theorem Mi (i:Int) (m:Mem):lC (ix i m).ae=lC m.ae:=by
 simp only [ix]
 cases decide (40<=(m.ae.length:Int))|| !within m.Next 1 99999 with
 | true=>rfl
 | false =>
  simp only [zF]
  cases decide (0<(gz (ah m.aa i)).Links)||((gz (ah m.aa i)).Kind==0) with
  | true=>rfl
  | false =>
   have hf:lC (m.ae.filter (stays i))=lC m.ae:=by
    simp only [lC,List.countP_filter]
    apply List.countP_congr
    intro d _
    by_cases h4:d.Kind=4
    ·simp [h4,stays]
    ·simp [h4]
   simp only [zF,dz]
   cases fq ⟨aR m.aa i (ba 0),bP (aM i) m.ak,m.ae.filter (stays i),m.Next⟩ with
   | false=>exact hf
   | true =>
    simp only [zE,lC,List.countP_append,List.countP_singleton]
    exact hf
theorem BM {i:Int} {y:bE} (hy:y∈m.ae) (h1:y.Kind≠1) (h6:y.Kind≠6):y∈(ix i m).ae:=by
 have pS:stays i y=true:=by simp only [stays]; rw [beq_eq_false_iff_ne.2 h1,beq_eq_false_iff_ne.2 h6]; rfl
 simp only [ix]
 cases decide (40<=(m.ae.length:Int))|| !within m.Next 1 99999 with
 | true=>exact hy
 | false =>
  simp only [zF]
  cases decide (0<(gz (ah m.aa i)).Links)||((gz (ah m.aa i)).Kind==0) with
  | true=>exact hy
  | false =>
   have hf:y∈m.ae.filter (stays i):=List.mem_filter.2 ⟨hy,pS⟩
   simp only [zF,dz]
   cases fq ⟨aR m.aa i (ba 0),bP (aM i) m.ak,m.ae.filter (stays i),m.Next⟩ with
   | false=>exact hf
   | true=>exact List.mem_append_left _ hf
theorem ym {i:Int} {y:bE} (hy:y∈(ix i m).ae):y∈m.ae\/(y.Kind=5/\y.Id=m.Next):=by
 revert hy
 simp only [ix]
 cases decide (40<=(m.ae.length:Int))|| !within m.Next 1 99999 with
 | true=>exact .inl
 | false =>
  simp only [zF]
  cases decide (0<(gz (ah m.aa i)).Links)||((gz (ah m.aa i)).Kind==0) with
  | true=>exact .inl
  | false =>
   simp only [zF,dz]
   cases fq ⟨aR m.aa i (ba 0),bP (aM i) m.ak,m.ae.filter (stays i),m.Next⟩ with
   | false=>exact fun hy=> .inl (List.mem_filter.1 hy).1
   | true =>
    intro hy
    rcases zH.1 hy with hy | hy
    ·exact .inl (List.mem_filter.1 hy).1
    ·rw [zS] at hy; subst hy; exact .inr ⟨rfl,rfl⟩
theorem xK (i:Int) (m:Mem):m.Next<=(ix i m).Next:=by
 simp only [ix]
 cases decide (40<=(m.ae.length:Int))|| !within m.Next 1 99999 with
 | true=>exact Int.le_refl _
 | false =>
  simp only [zF]
  cases decide (0<(gz (ah m.aa i)).Links)||((gz (ah m.aa i)).Kind==0) with
  | true=>exact Int.le_refl _
  | false =>
   simp only [zF,dz]
   cases fq ⟨aR m.aa i (ba 0),bP (aM i) m.ak,m.ae.filter (stays i),m.Next⟩ with
   | false=>exact Int.le_refl _
   | true=>show m.Next<=m.Next+1; omega
structure NJ (X:List Int) (m:Mem):Prop where
 g:Gd 0 X m
 len:m.ae.length<=36
 S6:m.Next+lC m.ae<=99100
theorem NJ.Gt (h:NJ X m) {z:bE} (hz:z∈m.ae) (h4:z.Kind=4):NJ X (Soft.ix z.Ino (aQ m z.Id)):=by
 have h1:=LW h.g.R hz h4
 have h2:=GJ h.g.R hz
 have h3:=h.len
 have h5:=h.S6
 have hn:(aQ m z.Id).Next=m.Next:=rfl
 have hg:=(h.g.Sn hz h4).ix (dm (h.g.R.num z hz)) (cV.2 ⟨by omega,h.g.R.n1,by show m.Next<=99999; omega⟩)
 have hl:=GC z.Ino (aQ m z.Id)
 refine ⟨hg,by omega,?_⟩
 rw [Mi]; have:=hl.2; omega
theorem wK:∀ (bl:List Int) (bb:List Bool) (p:Int),(∀ q∈bl,1<=q)->1<=p->p∉bl->(jj bl bb).getD (p-1).toNat false=bb.getD (p-1).toNat false
 | [],bb,p,_,_,_=>rfl
 | q::bl,bb,p,h,hp,hn=>by
  show (jj bl (bb.set (q-1).toNat false)).getD (p-1).toNat false=_
  rw [wK bl _ p (fun x hx=>h x (zJ _ hx)) hp fun hx=>hn (zJ _ hx),cF,if_neg]
  rintro ⟨h1,_⟩
  have:=h q zO
  exact hn (by rw [show p=q by omega]; exact zO)
theorem wY:∀ (bl:List Int) (bb:List Bool),(jj bl bb).length=bb.length
 | [],bb=>rfl
 | q::bl,bb=>by
  show (jj bl (bb.set (q-1).toNat false)).length=_
  rw [wY bl,List.length_set]
theorem Gd.sm (h:Gd 0 [] m) {x:bE} (hx:x∈m.ae) (h5:x.Kind=5):Gd 0 x.ab (Soft.sm x (aQ m x.Id)):=by
 have T:=h.T'
 obtain ⟨a1,a2,a3,a4⟩:=h.fr x hx h5
 have hi:=dm (h.R.num x hx)
 have QE:=fun p hp=>aj.1 (List.all_eq_true.1 (h.R.bs x hx) p hp)
 have hs:=List.filter_sublist (p:=fun y:bE=> !(y.Id==x.Id)) (l:=m.ae)
 have hr:=ph (l:=m.ae) (P:=fun y=> !(y.Id==x.Id)) fun d hd h4=>by
  have:d.Id≠x.Id:=fun hh=>by have:=pQ h.R.ids hd hx hh; rw [this,h5] at h4; exact absurd h4 (by decide)
  simpa using this
 have Hu:∀ p,lF p->p∉x.ab->(jj x.ab m.aa.aq.ab).getD (p-1).toNat false=BI m.aa p:=fun p hp hn=>wK _ _ _ (fun q hq=>(QE q hq).1) hp.1 hn
 have YS:∀ i,I8 i->i≠x.Ino->(m.aa.aq.bD.set (x.Ino-1).toNat false).getD (i-1).toNat false=Cr m.aa i:=fun i tw cR=>by
  rw [cF,if_neg]
  ·rfl
  ·rintro ⟨q,_⟩
   obtain ⟨b1,b2⟩:=tw
   omega
 have hR:=(h.R.drop x.Id).tP (bb:=jj x.ab m.aa.aq.ab) (bi:=m.aa.aq.bD.set (x.Ino-1).toNat false) ((wY _ _).trans T.bb) (List.length_set.trans T.bi)
 have hg:DG ⟨⟨jj x.ab m.aa.aq.ab,m.aa.aq.bD.set (x.Ino-1).toNat false⟩,m.aa.ad,m.aa.ab⟩:=DG.same T h.g T.di rfl (fun _ _=>rfl) (fun _ _ _=>rfl) (fun _ _ _=>rfl)
  (fun i k tw h0=>(Hu _ (T.gV tw h0) (fun q=>(a4 _ q).2 i k tw rfl)).trans (h.g.bm i k tw h0))
  (fun i tw h0=>(YS i tw (fun q=>h0 (q▸a1))).trans (h.g.Na i tw h0))
 have hR2:fC (Soft.sm x (aQ m x.Id)):=hR.bG ((cJ _ _).trans h.R.dy)
 have abM:∀ y∈m.ae,y.Kind=5->y.Id≠x.Id->y.Ino≠x.Ino/\∀ p∈y.ab,p∉x.ab:=fun y hy XZ cR=>by
  have:=h.Ei
  rw [List.pairwise_iff_getElem] at this
  obtain ⟨i1,zh,rfl⟩:=List.mem_iff_getElem.1 hx
  obtain ⟨i2,VL,rfl⟩:=List.mem_iff_getElem.1 hy
  rcases Nat.lt_trichotomy i1 i2 with fM | heq | hgt
  ·have:=this i1 i2 zh VL fM h5 XZ
   exact ⟨fun q=>this.1 q.symm,fun p hp hq=>this.2 p hq hp⟩
  ·subst heq; exact absurd rfl cR
  ·exact this i2 i1 VL zh hgt XZ h5
 refine ⟨hR2,fun d hd=>h.sz d (hs.subset hd),hg,?_,h.Ei.sublist hs,?_,?_,?_,fun d hd=>h.nd d (hs.subset hd),?_,h.us.sublist hs,?_⟩
 ·intro y hy XZ
  obtain ⟨MI,cR⟩:=dH.1 hy
  obtain ⟨b1,b2,b3,b4⟩:=h.fr y MI XZ
  obtain ⟨c1,c2⟩:=abM y MI XZ cR
  refine ⟨b1,(YS _ (dm (h.R.num y MI)) c1).trans b2,b3,fun p hp=>⟨(Hu p ?_ (c2 p hp)).trans (b4 p hp).1,(b4 p hp).2⟩⟩
  have:=aj.1 (List.all_eq_true.1 (h.R.bs y MI) p hp)
  exact ⟨this.1,this.2⟩
 ·intro j; show _->_->_->_=_+((gm (m.ae.filter fun y=> !(y.Id==x.Id)) j:Nat):Int)+_; rw [hr]; exact h.lk j
 ·intro j; show _->_->gm (m.ae.filter fun y=> !(y.Id==x.Id)) j=0/\_; rw [hr]; exact h.Cg j
 ·show gm (m.ae.filter fun y=> !(y.Id==x.Id)) 1=0/\_; rw [hr]; exact h.rt
 ·intro y hy h4
  obtain ⟨MI,cR⟩:=dH.1 hy
  obtain ⟨a,b⟩:=h.rd y MI h4
  refine ⟨a,?_⟩
  rcases b with b | b | ⟨f,hf,Cm,FH⟩
  ·exact .inl b
  ·cases b
  ·by_cases hh:f.Id=x.Id
   ·have:=pQ h.R.ids hf hx hh
    subst this; exact .inr (.inl FH)
   ·exact .inr (.inr ⟨f,dH.2 ⟨hf,hh⟩,Cm,FH⟩)
 ·intro y hy h4 h0
  obtain ⟨MI,cR⟩:=dH.1 hy
  obtain ⟨z,hz,a,b,c⟩:=h.af y MI h4 h0
  refine ⟨z,dH.2 ⟨hz,fun hh=> ?_⟩,a,b,c⟩
  have:=pQ h.R.ids hz hx hh
  rw [this,h5] at b; omega
theorem sj:∀ (l:List bE) (o:Mem),NJ X o->(l.Pairwise fun a b=>¬ a.Id=b.Id)->(∀ z∈l,z.Kind=4->z∈o.ae)->(∀ y∈o.ae,y.Kind=4->y.Block∈X->y∈l) ->
  NJ X (l.foldl (oG X) o)/\(∀ y∈(l.foldl (oG X) o).ae,y.Kind=4->y.Block∉X)/\(∀ y∈o.ae,(y.Kind=5\/y.Kind=3)->(∀ z∈l,z.Kind=4->z.Id≠y.Id)->y∈(l.foldl (oG X) o).ae)/\o.Next<=(l.foldl (oG X) o).Next /\
  (∀ y∈(l.foldl (oG X) o).ae,y∈o.ae\/(y.Kind=5/\o.Next<=y.Id))/\(l.foldl (oG X) o).aa.ab=o.aa.ab
 | [],o,h,_,_,h2=>⟨h,fun y hy h4 hX=>(List.not_mem_nil (h2 y hy h4 hX)).elim,fun y hy _ _=>hy,Int.le_refl _,fun y hy=> .inl hy,rfl⟩
 | z::l,o,h,hp,h1,h2=>by
  rw [List.pairwise_cons] at hp
  rw [List.foldl_cons]
  have e:oG X o z=if z.Kind=4/\z.Block∈X then ix z.Ino (aQ o z.Id) else o:=by
   simp only [oG]
   by_cases hk:z.Kind=4
   ·by_cases hX:z.Block∈X
    ·rw [if_pos ⟨hk,hX⟩,hk,D9.2 hX]; rfl
    ·rw [if_neg (fun q=>hX q.2)]
     have:has X z.Block=false:=by rw [← Bool.not_eq_true,D9]; exact hX
     rw [this,Bool.and_false]; rfl
   ·rw [if_neg (fun q=>hk q.1),beq_eq_false_iff_ne.2 hk]; rfl
  rw [e]
  by_cases hc:z.Kind=4/\z.Block∈X
  ·rw [if_pos hc]
   have hz:=h1 z zO hc.1
   have hM:=h.Gt hz hc.1
   have jY:(ix z.Ino (aQ o z.Id)).aa.ab=o.aa.ab:=by
    simp only [ix]
    cases decide (40<=((aQ o z.Id).ae.length:Int))|| !within (aQ o z.Id).Next 1 99999 with
    | true=>rfl
    | false =>
     simp only [zF]
     cases decide (0<(gz (ah (aQ o z.Id).aa z.Ino)).Links)||((gz (ah (aQ o z.Id).aa z.Ino)).Kind==0) with
     | true=>rfl
     | false=>simp only [zF,yu]; rfl
   have:=sj l _ hM hp.2 (fun y hy h4=>BM (dH.2 ⟨h1 y (zJ _ hy) h4,fun q=>hp.1 y hy q.symm⟩) (by omega) (by omega)) (fun y hy h4 hX=>by
    rcases ym hy with q | q
    ·obtain ⟨q1,q2⟩:=dH.1 q
     exact (zI.1 (h2 y q1 h4 hX)).resolve_left fun q=>q2 (by rw [q])
    ·omega)
   obtain ⟨r1,r2,r3,r4,r5,r6⟩:=this
   refine ⟨r1,r2,fun y hy hk cR=>r3 y (BM (dH.2 ⟨hy,fun q=>cR z zO hc.1 q.symm⟩) (by omega) (by omega)) hk fun w hw=>cR w (zJ _ hw),Int.le_trans (xK z.Ino (aQ o z.Id)) r4,fun y hy=> ?_,r6.trans jY⟩
   rcases r5 y hy with q | q
   ·rcases ym q with q | q
    ·exact .inl (dH.1 q).1
    ·exact .inr ⟨q.1,by rw [q.2]; exact Int.le_refl _⟩
   ·exact .inr ⟨q.1,Int.le_trans (xK z.Ino (aQ o z.Id)) q.2⟩
  ·rw [if_neg hc]
   have:=sj l o h hp.2 (fun y hy h4=>h1 y (zJ _ hy) h4) (fun y hy h4 hX=>(zI.1 (h2 y hy h4 hX)).resolve_left fun q=>hc (by rw [← q]; exact ⟨h4,hX⟩))
   obtain ⟨r1,r2,r3,r4,r5,r6⟩:=this
   exact ⟨r1,r2,fun y hy hk cR=>r3 y hy hk fun w hw=>cR w (zJ _ hw),r4,r5,r6⟩
theorem NJ.sP (h:NJ [] m) {x:bE} (hx:x∈m.ae) (h5:x.Kind=5):NJ [] (Soft.sP x m)/\(∀ y∈m.ae,y.Id≠x.Id->(y.Kind=5\/y.Kind=3)->y∈(Soft.sP x m).ae)/\m.Next<=(Soft.sP x m).Next /\
  (∀ y∈(Soft.sP x m).ae,y∈m.ae\/(y.Kind=5/\m.Next<=y.Id))/\(Soft.sP x m).aa.ab=m.aa.ab:=by
 have hg:=h.g.sm hx h5
 have hl:=GJ h.g.R hx
 have hra:lC (aQ m x.Id).ae=lC m.ae:=by
  have:=qG h.g.R.ids hx (fun d=>d.Kind==4)
  rw [h5] at this; exact this
 have hlen:=h.len
 have X9:=h.S6
 have hM:NJ x.ab (sm x (aQ m x.Id)):=⟨hg,by show (aQ m x.Id).ae.length<=36; omega,by show m.Next+lC (aQ m x.Id).ae<=99100; rw [hra]; exact X9⟩
 obtain ⟨r1,r2,r3,r4,r5,r6⟩:=sj (aQ m x.Id).ae _ hM (h.g.R.ids.sublist List.filter_sublist) (fun z hz _=>hz) (fun y hy _ _=>hy)
 refine ⟨⟨?_,r1.len,r1.S6⟩,fun y hy cR hk=>r3 y (dH.2 ⟨hy,cR⟩) hk fun z hz h4 hh=> ?_,r4,fun y hy=> ?_,r6⟩
 ·have g:=r1.g
  refine ⟨g.R,g.sz,g.g,g.fr,g.Ei,g.lk,g.Cg,g.rt,g.nd,?_,g.us,g.af⟩
  intro y hy h4
  obtain ⟨a,b⟩:=g.rd y hy h4
  refine ⟨a,?_⟩
  rcases b with b | b | b
  ·exact .inl b
  ·exact absurd b (r2 y hy h4)
  ·exact .inr (.inr b)
 ·have:=pQ h.g.R.ids (dH.1 hz).1 hy hh
  subst this; omega
 ·rcases r5 y hy with q | q
  ·exact .inl (dH.1 q).1
  ·exact .inr q
def Xh (u:Int) (x:bE):Prop:=(x.Kind=5/\aM x.Ino=u)\/(x.Kind=3/\aE x.Block=u)\/(x.Kind=4/\x.bz=0/\aE x.Block=u)
theorem zd {i:Int} (h:I8 i):1<=aM i/\aM i<=4:=by
 obtain ⟨a,b⟩:=h
 simp only [aM,aj.2 ⟨a,b⟩,zE]; omega
theorem pD (p:Int):aE p= -1\/5<=aE p:=by
 simp only [aE]
 cases h:within p 1 16 with
 | true=>rw [aj] at h; right; simp only [zE]; omega
 | false=>exact .inl rfl
theorem Iq (id b:Int) (m:Mem):lC (shown id b m).ae<=lC m.ae:=by
 have h1:lC (shown id b m).ae=lC (aQ m id).ae:=by
  simp only [shown,lC,List.countP_map]
  apply List.countP_congr
  intro y _
  simp [(bj id b y).2.1]
 rw [h1]
 exact List.Sublist.countP_le List.filter_sublist
structure DI (u:Int) (l:List bE) (o:Mem):Prop where
 M:NJ [] o
 k:∀ x∈l,∀ y∈o.ae,y.Id=x.Id->y.Kind=x.Kind
 n:∀ x∈l,x.Id<o.Next
 p:∀ x∈l,Xh u x->x∈o.ae
theorem AF (u:Int) (o:Mem) (d:bE):(d.Kind=6/\aM d.Ino=u/\iA u o d=aQ o d.Id)\/(d.Kind=5/\aM d.Ino=u/\iA u o d=sP d o)\/(d.Kind=3/\aE d.Block=u/\iA u o d=shown d.Id 0 o) \/
  (d.Kind=4/\d.bz=0/\aE d.Block=u/\iA u o d=ix d.Ino (aQ o d.Id))\/(¬ (d.Kind=6/\aM d.Ino=u)/\¬ Xh u d/\iA u o d=o):=by
 simp only [iA]
 cases h6:(d.Kind==6)&&(aM d.Ino==u) with
 | true=>simp only [zB,beq_iff_eq] at h6; exact .inl ⟨h6.1,h6.2,rfl⟩
 | false =>
 cases h5:(d.Kind==5)&&(aM d.Ino==u) with
 | true=>simp only [zB,beq_iff_eq] at h5; exact .inr (.inl ⟨h5.1,h5.2,rfl⟩)
 | false =>
 cases h3:(d.Kind==3)&&(aE d.Block==u) with
 | true=>simp only [zB,beq_iff_eq] at h3; exact .inr (.inr (.inl ⟨h3.1,h3.2,rfl⟩))
 | false =>
 cases h4:((d.Kind==4)&&(d.bz==0))&&(aE d.Block==u) with
 | true=>simp only [zB,beq_iff_eq] at h4; exact .inr (.inr (.inr (.inl ⟨h4.1.1,h4.1.2,h4.2,rfl⟩)))
 | false =>
  refine .inr (.inr (.inr (.inr ⟨?_,?_,rfl⟩)))
  ·rintro ⟨a,b⟩; rw [a,b] at h6; simp at h6
  ·rintro (⟨a,b⟩ | ⟨a,b⟩ | ⟨a,b,c⟩)
   ·rw [a,b] at h5; simp at h5
   ·rw [a,b] at h3; simp at h3
   ·rw [a,b,c] at h4; simp at h4
theorem DI.step {u:Int} {x:bE} {l:List bE} {o:Mem} (h:DI u (x::l) o) (hp:(x::l).Pairwise fun a b=>¬ a.Id=b.Id) (hI:I8 x.Ino):DI u l (iA u o x):=by
 rw [List.pairwise_cons] at hp
 have hk:=fun y hy=>h.k y (zJ x hy)
 have hn:=fun y hy=>h.n y (zJ x hy)
 have nf:=fun y hy=>h.p y (zJ x hy)
 have hlen:=h.M.len
 have X9:=h.M.S6
 rcases AF u o x with ⟨a,b,c⟩ | ⟨a,b,c⟩ | ⟨a,b,c⟩ | ⟨a,b,b',c⟩ | ⟨a,b,c⟩
 ·rw [c]
  have hg:=h.M.g.sub (P:=fun y=> !(y.Id==x.Id)) fun y hy h1 h6=>by
   have:=h.k x zO y hy
   have cR:y.Id≠x.Id:=fun q=>h6 ((this q).trans a)
   simpa using cR
  have hs:=List.filter_sublist (p:=fun y:bE=> !(y.Id==x.Id)) (l:=o.ae)
  refine ⟨⟨hg,Nat.le_trans hs.length_le hlen,?_⟩,fun y hy z hz=>hk y hy z (hs.subset hz),hn,fun y hy hr=>dH.2 ⟨nf y hy hr,fun q=>hp.1 y hy q.symm⟩⟩
  have:lC (o.ae.filter fun y=> !(y.Id==x.Id))<=lC o.ae:=List.Sublist.countP_le hs
  show o.Next+lC (o.ae.filter fun y=> !(y.Id==x.Id))<=99100
  omega
 ·rw [c]
  have hx:=h.p x zO (.inl ⟨a,b⟩)
  obtain ⟨r1,r2,r3,r4,_⟩:=h.M.sP hx a
  have hu:=zd hI
  rw [b] at hu
  refine ⟨r1,fun y hy z hz Tq=> ?_,fun y hy=>Int.lt_of_lt_of_le (hn y hy) r3,fun y hy hr=>r2 y (nf y hy hr) (fun q=>hp.1 y hy q.symm) ?_⟩
  ·rcases r4 z hz with q | q
   ·exact hk y hy z q Tq
   ·have:=hn y hy; omega
  ·rcases hr with q | q | q
   ·exact .inl q.1
   ·have:=pD y.Block; omega
   ·have:=pD y.Block; omega
 ·rw [c]
  have hx:=h.p x zO (.inr (.inl ⟨a,b⟩))
  have hg:=h.M.g.shown hx (.inr a) (b:=0) (.inl rfl)
  refine ⟨⟨hg,Nat.le_trans (DO _ _ _) hlen,?_⟩,fun y hy z hz Tq=> ?_,hn,fun y hy hr=> ?_⟩
  ·have:=Iq x.Id 0 o
   show o.Next+lC (shown x.Id 0 o).ae<=99100
   omega
  ·obtain ⟨w,hw,_,rfl⟩:=fc.1 hz
   rw [(bj _ _ w).1] at Tq; rw [(bj _ _ w).2.1]
   exact hk y hy w hw Tq
  ·refine fc.2 ⟨y,nf y hy hr,fun q=>hp.1 y hy q.symm,?_⟩
   have oV:=(eA (h.M.g.R.num x hx)).1.1
   simp only [eZ]
   rcases hr with q | q | q
   ·rw [q.1]; rfl
   ·rw [q.1]; rfl
   ·rw [q.1,q.2.1,beq_eq_false_iff_ne.2 (show (0:Int)≠x.Id by omega)]; rfl
 ·rw [c]
  have hx:=h.p x zO (.inr (.inr ⟨a,b,b'⟩))
  refine ⟨h.M.Gt hx a,fun y hy z hz Tq=> ?_,fun y hy=>Int.lt_of_lt_of_le (hn y hy) (xK x.Ino (aQ o x.Id)),fun y hy hr=> ?_⟩
  ·rcases ym hz with q | q
   ·exact hk y hy z (dH.1 q).1 Tq
   ·have h1:=hn y hy
    have h2:z.Id=o.Next:=q.2
    omega
  ·refine BM (dH.2 ⟨nf y hy hr,fun q=>hp.1 y hy q.symm⟩) ?_ ?_
   ·rcases hr with q | q | q<;>omega
   ·rcases hr with q | q | q<;>omega
 ·rw [c]; exact ⟨h.M,hk,hn,nf⟩
theorem DI.fold {u:Int}:∀ (l:List bE) (o:Mem),DI u l o->(l.Pairwise fun a b=>¬ a.Id=b.Id)->(∀ x∈l,I8 x.Ino)->NJ [] (l.foldl (iA u) o)
 | [],o,h,_,_=>h.M
 | x::l,o,h,hp,hI=>by
  rw [List.foldl_cons]
  exact DI.fold l _ (h.step hp (hI x zO)) (List.pairwise_cons.1 hp).2 fun y hy=>hI y (zJ _ hy)
theorem Dg (u:Int):CN fun d=>mF u (mI u d):=by
 refine ⟨fun d=> ?_,fun d=> ?_⟩
 ·obtain ⟨a1,a2,a3,a4,a5,a6,a7,a8,a9⟩:=kK u d
  exact ⟨a1,a3,a4,a5,a6,a7,a8,a9⟩
 ·exact .inl (kK u d).2.1
theorem Bg (l:List bE):CN (jm l):=by
 refine ⟨sW l,fun d=> ?_⟩
 simp only [jm]
 cases h:((d.Kind==1)&&d.aq)&&d.et with
 | true=>simp only [zB,beq_iff_eq] at h; exact .inr (.inl ⟨h.1.1,rfl⟩)
 | false =>
  cases h2:(((d.Kind==2)&&d.aq)&&d.et)&&(!pending l d.Block) with
  | true=>simp only [zB,beq_iff_eq] at h2; exact .inr (.inr ⟨h2.1.1.1,rfl⟩)
  | false=>exact .inl rfl
theorem QW (u:Int) {d:bE} (h1:d.Kind≠1) (h2:d.Kind≠2):mF u (mI u d)=d:=by
 have e1:mI u d=d:=by simp only [mI]; rw [beq_eq_false_iff_ne.2 h1,beq_eq_false_iff_ne.2 h2,Bool.or_false,Bool.and_false]; rfl
 rw [e1]
 simp only [mF]; rw [beq_eq_false_iff_ne.2 h1,beq_eq_false_iff_ne.2 h2]; rfl
theorem Dx {f:bE->bE} (ht:CN f) (l:List bE):lC (l.map f)=lC l:=by
 simp only [lC,List.countP_map]
 apply List.countP_congr
 intro d _
 have:=(ht.OL d).1
 simp [this]
theorem j9.done (h:j9 m) (u:Int):j9 (Soft.done m u):=by
 simp only [Soft.done]
 cases hc:gL m&&within u 0 20 with
 | false=>exact h
 | true =>
  simp only [zE]
  have g0:=h.g.bG (y:=m.ak.set u.toNat false) (List.length_set.trans h.g.R.dy)
  have g1:Gd 0 [] (flag u (clean u m)):=g0.QZ (Dg u)
  have hD:DI u m.ae (flag u (clean u m)):=by
   refine ⟨⟨g1,by show (m.ae.map _).length<=36; rw [List.length_map]; exact h.len,by show m.Next+lC (m.ae.map _)<=99100; rw [Dx (Dg u)]; exact h.S6⟩,fun x hx y hy he=> ?_,fun x hx=> ?_,fun x hx hr=> ?_⟩
   ·obtain ⟨z,hz,rfl⟩:=List.mem_map.1 hy
    rw [(kK u z).1] at he
    rw [(kK u z).2.1,pQ h.g.R.ids hz hx he]
   ·have:=(eA (h.g.R.num x hx)).1.2
    show x.Id<m.Next; omega
   ·refine List.mem_map.2 ⟨x,hx,QW u ?_ ?_⟩<;>rcases hr with q | q | q<;>omega
  have hM:=DI.fold m.ae _ hD h.g.R.ids fun x hx=>dm (h.g.R.num x hx)
  generalize m.ae.foldl (iA u) (flag u (clean u m))=o at hM
  have g2:=(hM.g.QZ (Bg o.ae)).bG (y:=o.ae.foldl (xT o.ae) o.ak) ((vp _ _ _).trans hM.g.R.dy)
  refine ⟨g2,?_,?_⟩
  ·show (List.map _ _).length<=36; rw [List.length_map]; exact hM.len
  ·show o.Next+(lC (o.ae.map (jm o.ae)):Int)<=99100; rw [Dx (Bg _)]; exact hM.S6
end Go.Soft
namespace Go.Soft
open Go
variable {R:Type} {m:Mem}
theorem j9.sz (h:j9 m):eK m:=h.g.T.EZ
theorem GZ {n:Nat} (hn:bn<=n) (h:j9 m) (p q:ByteArray) (hp:p.size<=cL) (hq:q.size<=cL) (k:Mem->Int->Option R) :
  qQ n m p q k=k (ju m p q).1 (ju m p q).2:=by
 have hm:=h.sz
 have T:=h.g.T'
 have uX:=h.g.R.n1
 have PB:=T.di
 obtain ⟨q1,q2,q3⟩:=mr p
 obtain ⟨r1,r2,r3⟩:=mr q
 simp only [qQ,ju]
 rw [dZ hn m hm,o4 hn p hp,o4 hn q hq,ov hn m hm]
 cases hc:((!gL m)||(!(ao p).2.2))||(!(ao q).2.2) with
 | true=>rfl
 | false =>
 simp only [Bool.or_eq_false_iff,Bool.not_eq_false'] at hc
 simp only [zF,xY]
 obtain ⟨l,x,e1,e2,e3,hx,hl,hl3⟩:=gW hc.1.2
 rw [jg hn _ hm.d _ q1,qF hn _ hm.d,jg hn _ hm.d _ r1,e3]
 cases bQ:((find m.aa (aD m.aa (ao p).1) x).2.2==0)||(aD m.aa (ao q).1==0) with
 | true=>rfl
 | false =>
 simp only [Bool.or_eq_false_iff] at bQ
 have F:=(vV T (w:=aD m.aa (ao p).1) hx).resolve_left (fun z=>by rw [z.1] at bQ; exact absurd bQ.1 (by decide))
 generalize find m.aa (aD m.aa (ao p).1) x=f at *
 have MY:=F.i8
 obtain ⟨i1,i2⟩:=MY
 have Ze:=(ld T.di (ao q).1).resolve_left (by simpa using bQ.2)
 simp only [zF]
 rw [bR (x:=f.2.2) (by omega) (by omega),bR (x:=aD m.aa (ao q).1) (by omega) (by omega),bB i1 (by omega),bB Ze.1 (by omega)]
 simp only [Bool.or_true,bf]
 show (bif (!((ah m.aa f.2.2).Kind==1))||(!((ah m.aa (aD m.aa (ao q).1)).Kind==2)) then _ else _)=_
 cases eL:(!((ah m.aa f.2.2).Kind==1))||(!((ah m.aa (aD m.aa (ao q).1)).Kind==2)) with
 | true=>rfl
 | false =>
 simp only [zF]
 rw [jg hn _ hm.d _ hq]
 cases hY: !(aD m.aa q==0) with
 | true=>rfl
 | false =>
 simp only [zF]
 rw [yP hn m hm.dp hm.d.di _ Ze.1 (by omega) (by rw [T.th Ze.1 Ze.2]; decide),HR hn m hm _ r1]
 have ez:∀ a b:Bool,(a||(bif !a then b else false))=(a||b):=fun a b=>by cases a<;>rfl
 simp only [ez]
 cases uW:waits m (aD m.aa (ao q).1) (ao q).2.1||deep m (ao q).1 with
 | true=>rfl
 | false =>
 simp only [zF,jE]
 have er:(decide ((m.ae.length:Int)<=32)&&decide (m.Next<=99000))=room m:=rfl
 rw [er]
 cases zj: !room m with
 | true=>rfl
 | false =>
 simp only [zF]
 show (bif decide (200<=(ah m.aa f.2.2).Links) then _ else _)=_
 cases KM:decide (200<=(ah m.aa f.2.2).Links) with
 | true=>rfl
 | false =>
 simp only [zF,E9]
 simp only [Bool.or_eq_false_iff,Bool.not_eq_false',beq_eq_false_iff_ne,beq_iff_eq,decide_eq_false_iff_not] at bQ eL hY uW zj KM
 have yX:=se.1 zj
 obtain ⟨w1,w2,w3,w4,w5⟩:=x8 h.g hc.2 hY bQ.2 eL.2
 have vQ:aU m.aa f.2.2=1:=eL.1
 have hgm:=h.g.Oj F.i8 vQ (by show (ah m.aa f.2.2).Links<200; omega)
 have MG:Gd f.2.2 [] (cU m f.2.2):=hgm.bG (y:=bP (aM f.2.2) m.ak) ((cJ _ _).trans h.g.R.dy)
 have zY:0<=(ah m.aa f.2.2).Links:=by
  have:=T.sK i1 i2
  simp only [bx,zB,aj] at this; exact this.2.1.1
 rw [dZ hn m hm,cy (n:=(m.aa.ad.getD (f.2.2-1).toNat ay).Links+1) (by show _<=(ah m.aa f.2.2).Links+1; omega) (by show (ah m.aa f.2.2).Links+1<=_; omega),gi,dj,jP]
 have ek:∀ i,I8 i->aU (cU m f.2.2).aa i=aU m.aa i:=fun i hi=>by
  show aU (aR m.aa f.2.2 _) i=_
  rw [dB T.di F.i8 hi]; split
  ·next z=>rw [z]; rfl
  ·rfl
 have ep:∀ i k,I8 i->aW (cU m f.2.2).aa i k=aW m.aa i k:=fun i k hi=>by
  show aW (aR m.aa f.2.2 _) i k=_
  rw [eV T.di F.i8 hi]; split
  ·next z=>rw [z]; rfl
  ·rfl
 have es:∀ q u,cB (cU m f.2.2).aa q u=cB m.aa q u:=fun q u=>rfl
 have eo:=n5 ek ep
 have ec:=ot T.di (MG.T'.di) ek ep rfl
 have TC:L3 (cU m f.2.2) (aD m.aa (ao q).1) (ao q).2.1 f.2.2:=by
  refine ⟨w1,by rw [ek _ w1]; exact eL.2,w2,F.i8,?_,?_,fun z=>by rw [ek _ F.i8,vQ] at z; exact absurd z (by decide)⟩
  ·rcases w3 with z | z
   ·exact .inl z
   ·exact .inr (by show k9 (cU m f.2.2).aa _≠0; rw [show k9 (cU m f.2.2).aa _=k9 m.aa _ from ec _]; exact z)
  ·intro l t; rw [ep _ _ w1,es]; exact w4 l t
 have Vx:∀ k:Int->Mem->Option R,qf n (aD m.aa (ao q).1) (ao q).2.1 f.2.2 (cU m f.2.2) k=_:=fun k=>C1 hn _ MG.T w1.1 w1.2 (by show aU _ _≠0; rw [ek _ w1]; show (ah m.aa _).Kind≠0; rw [eL.2]; decide) w2 i1 i2 k
 rw [ai (bB i1 (by omega))]
 refine (Vx _).trans ?_
 cases Wp:(dL (cU m f.2.2) (aD m.aa (ao q).1) (ao q).2.1 f.2.2).2==0 with
 | true=>rfl
 | false =>
 simp only [zF]
 have P:=(qq (m:=cU m f.2.2) MG (by show m.ae.length<=38; omega) (by show m.Next<=99998; omega) TC).resolve_left (by simpa using Wp)
 generalize dL (cU m f.2.2) (aD m.aa (ao q).1) (ao q).2.1 f.2.2=t at *
 have hB:=F.b
 have Wn:f.1≠0:=by obtain ⟨a,b⟩:=hB; omega
 have SD:mV (cU m f.2.2).aa f.1:=(eo _).2 F.own
 have hI:(cB m.aa f.1 f.2.1.toNat).Ino=f.2.2:=by rw [F.sl]
 have hs1:cB t.1.aa f.1 f.2.1.toNat=cB m.aa f.1 f.2.1.toNat:=P.same _ _ hB SD (by rw [es,hI]; omega)
 obtain ⟨dp,ds,Wv,hd2,MT⟩:=P.dep
 have oV:=(eA (P.g.R.num _ Wv)).1
 have afC:1<=t.2:=oV.1
 have ac9:t.2<=t.1.Next-1:=oV.2
 exact B0 hn P.g.T hB.1 hB.2 (P.g.g.vh (P.own _ Wn SD) Wn) F.s.1 F.s.2 (by
  rw [aj]
  show 1<=(cB t.1.aa f.1 f.2.1.toNat).Ino/\(cB t.1.aa f.1 f.2.1.toNat).Ino<=8
  rw [hs1,hI]; exact ⟨i1,i2⟩) (by omega) ac9 _
theorem qV:∀ i k,I8 i->aW fy i k=0:=by
 intro i k hi
 have hz:∀ kk,([0,0]:List Int).getD kk 0=0:=fun kk=>by
  match kk with
  | 0=>rfl
  | 1=>rfl
  | n+2=>rfl
 have:(ah fy i).ax=[0,0]:=by
  obtain ⟨a,b⟩:=hi
  have:i=1\/i=2\/i=3\/i=4\/i=5\/i=6\/i=7\/i=8:=by omega
  rcases this with rfl | rfl | rfl | rfl | rfl | rfl | rfl | rfl<;>rfl
 simp only [aW,this,hz]
theorem Aq {i:Int} (hi:I8 i):aU fy i=if i=1 then 2 else 0:=by
 obtain ⟨a,b⟩:=hi
 have:i=1\/i=2\/i=3\/i=4\/i=5\/i=6\/i=7\/i=8:=by omega
 rcases this with rfl | rfl | rfl | rfl | rfl | rfl | rfl | rfl<;>rfl
theorem Lx:gL (Au fy)=true:=by decide +kernel
theorem j9.new:j9 (Au fy):=by
 have hR:=nG.1 Lx
 have hO:∀ p,p≠0->¬ mV fy p:=fun p hp ⟨i,k,hi,_,h⟩=>by rw [qV i k hi] at h; exact hp h.symm
 have hg:DG fy:=by
  refine ⟨fun i k j l hi _ _ h=>absurd (qV i k hi) h,fun i k hi h=>absurd (qV i k hi) h,fun i hi h=> ?_,fun i k hi h=>absurd (qV i k hi) h,fun p s hp ho=>absurd ho (hO p (by obtain ⟨a,b⟩:=hp; omega)),
   fun i k s hi _ _ _ h=>absurd (qV i k hi) h,fun j hj h=> ?_,rfl,fun i k l s t hi _ h=>absurd (qV i k hi) h,⟨fun _=>0,rfl,fun i k s hi _ h=>absurd (qV i k hi) h⟩⟩
  ·rw [Aq hi] at h
   by_cases h1:i=1
   ·subst h1; rfl
   ·rw [if_neg h1] at h; exact absurd rfl h
  ·rw [Aq hj] at h
   by_cases h1:j=1
   ·subst h1; rfl
   ·rw [if_neg h1] at h; exact absurd h (by decide)
 have no:∀ {d:bE} {C:Prop},d∈(Au fy).ae->C:=fun hd=>(List.not_mem_nil hd).elim
 refine ⟨⟨hR,fun d hd=>no hd,hg,fun d hd=>no hd,List.Pairwise.nil,fun j hj h1 h=> ?_,fun j hj h=>⟨rfl,by obtain ⟨a,b⟩:=hj; omega⟩,⟨rfl,by decide⟩,fun d hd=>no hd,fun d hd=>no hd,List.Pairwise.nil,fun d hd=>no hd⟩,by decide,by decide⟩
 have h':aU fy j≠0:=h
 rw [Aq hj,if_neg h1] at h'; exact absurd rfl h'
theorem qS {β:Type} {L:Nat->Int->List β->Option R} {N:Nat} {f:Nat->β} {B:Nat} {q:List β->Option R} (hN:N<=1000)
  (hs:∀ m i acc,B<m->i<N->acc.length=i->L (m+1) (i:Int) acc=L m (aC ((i:Int)+1)) (acc++[f i])) (hq:∀ m acc,L (m+1) (N:Int) acc=q acc) :
  ∀ (r j n:Nat) (acc:List β),j+r=N->acc.length=j->r+B<n->L n (j:Int) acc=q (acc++(List.range' j r).map f)
 | 0,j,0,acc,h1,h2,h3=>by omega
 | 0,j,n+1,acc,h1,h2,h3=>by
  have:j=N:=by omega
  subst this; rw [hq]; simp
 | r+1,j,0,acc,h1,h2,h3=>by omega
 | r+1,j,n+1,acc,h1,h2,h3=>by
  rw [hs n j acc (by omega) (by omega) h2,bH (by omega),qS hN hs hq r (j+1) n _ (by omega) (by rw [zK,h2,zL]) (by omega),List.range'_succ,List.map_cons,List.append_assoc]
  rfl
def w9 (d:aa):Device×Bool:=bif n6 d then (⟨(List.range' 0 21).map fun u:Nat=>B2 d u⟩,true) else (⟨[]⟩,false)
theorem GB {n:Nat} (hn:bn<=n) (d:aa) (hd:kj d) (k:Device->Bool->Option R):kE n d k=k (w9 d).1 (w9 d).2:=by
 simp only [kE,w9]
 rw [xB hn d hd]
 cases h:n6 d with
 | false=>rfl
 | true =>
  have T:=(lZ.1 h).t
  simp only [zM,zF,zE]
  have:=qS (R:=R) (L:=iS n d.aq.ab d.aq.bD d.ad d.ab (fun v=>k ⟨v⟩ true)) (N:=21) (f:=fun u:Nat=>B2 d u) (B:=0) (q:=fun v=>k ⟨v⟩ true) (by omega)
   (fun m i acc _ hi ha=>by
    simp only [iS]
    rw [show decide ((i:Int)<21)=true by simp; omega,bw]
    refine (BK hn d T i (by omega) (by omega) _).trans ?_
    rw [ai (cb (i:=i) (by omega) (by omega) (by simp))])
   (fun m acc=>by simp [iS]) 21 0 n [] rfl rfl (aP hn (by omega))
  exact this
def FQ:Fs:=⟨Au fy,(w9 fy).1⟩
theorem AY:n6 fy=true:=by decide +kernel
theorem Bo:kj fy:=(lZ.1 AY).t.sz
theorem Pw {n:Nat} (hn:bn<=n) (k:Fs->Option R):zp n k=k FQ:=by
 simp only [zp]
 rw [qE hn,GB hn _ Bo,qE hn,Mc hn _ Bo]; rfl
structure pI (f:Fs):Prop where
 m:j9 f.Mem
 d:dV f.Device=true
theorem pI.new:pI FQ:=⟨j9.new,by decide +kernel⟩
theorem ND {d:Device} (h:dV d=true):d.cq.length=21:=by
 simp only [dV,zB,beq_iff_eq] at h; exact h.2
theorem Ev {d:Device} (h:dV d=true):d.cq.length<=cL:=by rw [ND h]; decide
theorem Ec {d:Device} (h:dV d=true) (u:Int) (s:ByteArray):dV (ga d u s).1=true:=by
 simp only [ga]
 cases hc:((!dV d)||(!within u 0 20))||(decide (60<(s.size:Int))) with
 | true=>exact h
 | false =>
  simp only [Bool.or_eq_false_iff,decide_eq_false_iff_not] at hc
  simp only [dV,zB,beq_iff_eq,zF,List.length_set,List.all_eq_true] at h ⊢
  refine ⟨fun x hx=> ?_,h.2⟩
  rcases mem_set hx with q | q
  ·exact h.1 x q
  ·rw [q,CZ,Bool.not_eq_true',decide_eq_false_iff_not]; exact hc.2
theorem xe {n:Nat} (hn:bn<=n) (f:Fs) (hm:eK f.Mem) (hd:f.Device.cq.length<=cL) (u:Int) (k:Fs->Bool->Option R):g8 n f u k=k (dq f u).1 (dq f u).2:=by
 simp only [g8,dq]
 rw [Fe hn _ hm,R1 hn f hm hd]
 cases hc:(!Lb f)||(!(fa f.Mem u).2) with
 | true=>simp only [zE]; rw [vz hn f hm hd]
 | false =>
  simp only [zF]
  rw [Fi hn _ hd]
  cases hw: !(ga f.Device u (fa f.Mem u).1).2 with
  | true=>simp only [zE]; rw [vz hn f hm hd]
  | false =>
   simp only [zF]
   rw [(Kq hn _ hm u _).1]
theorem pI.back {f:Fs} (h:pI f) (u:Int):pI (dq f u).1:=by
 simp only [dq]
 cases (!Lb f)||(!(fa f.Mem u).2) with
 | true=>exact h
 | false =>
  cases !(ga f.Device u (fa f.Mem u).1).2 with
  | true=>exact h
  | false=>exact ⟨h.m.done u,Ec h.d _ _⟩
def gI (l:List Bool):Nat:=(l.takeWhile fun b=> !b).length
def qw:Nat->Fs->Fs
 | 0,f=>f
 | k+1,f=>bif gI f.Mem.ak==f.Mem.ak.length then f else bif !(dq f (gI f.Mem.ak)).2 then f else qw k (dq f (gI f.Mem.ak)).1
def flush (f:Fs):Fs:=qw 400 f
theorem pI.qw:∀ (k:Nat) {f:Fs},pI f->pI (Soft.qw k f)
 | 0,f,h=>h
 | k+1,f,h=>by
  simp only [Soft.qw]
  cases gI f.Mem.ak==f.Mem.ak.length with
  | true=>exact h
  | false =>
   cases !(dq f (gI f.Mem.ak)).2 with
   | true=>exact h
   | false=>exact pI.qw k (h.back _)
theorem GS (l:List Bool) (hl:l.length<=2097152) (q:Int->Option R):∀ (s:List Bool) (j m:Nat),s=l.drop j->j<=l.length->s.length<m->jC l q m (j:Int)=q ((j+gI s:Nat):Int)
 | [],j,0,h1,h2,h3=>by cases h3
 | [],j,m+1,h1,h2,h3=>by
  have:l.length<=j:=by have:=congrArg List.length h1; simp at this; omega
  simp only [jC,br,show decide (j<l.length)=false by simp; omega]
  rfl
 | b::s,j,0,h1,h2,h3=>by cases h3
 | b::s,j,m+1,h1,h2,h3=>by
  have hj:j<l.length:=by have:=congrArg List.length h1; simp at this; omega
  have hd:=cK false hj
  rw [← h1] at hd; injection hd with hb hs
  simp only [jC,br,aJ,hj,zV,zM,Bool.false_or,bf,Bool.true_and,zC,← hb]
  cases b with
  | true=>rfl
  | false =>
   simp only [zN,zE]
   rw [bH (by omega),GS l hl q s (j+1) m hs (by omega) (by simp at h3; omega)]
   simp only [gI,List.takeWhile_cons,zN,if_true,zR]
   congr 2; omega
theorem En {n:Nat} (hn:bn<=n) (f:Fs) (hm:eK f.Mem) (hd:f.Device.cq.length<=cL) (u:Int):eK (dq f u).1.Mem/\(dq f u).1.Device.cq.length<=cL:=by
 simp only [dq]
 cases (!Lb f)||(!(fa f.Mem u).2) with
 | true=>exact ⟨hm,hd⟩
 | false =>
  rw [zF]
  cases !(ga f.Device u (fa f.Mem u).1).2 with
  | true=>exact ⟨hm,hd⟩
  | false =>
   rw [zF]
   refine ⟨?_,?_⟩
   ·rcases (Kq (R:=Unit) hn f.Mem hm u fun _=>none).2 with h | h
    ·show eK (done f.Mem u); rw [h]; exact hm
    ·exact h.2.EZ
   ·show (ga f.Device u (fa f.Mem u).1).1.cq.length<=cL
    simp only [ga]
    cases ((!dV f.Device)||(!within u 0 20))||(decide (60<((fa f.Mem u).1.size:Int))) with
    | true=>exact hd
    | false=>rw [zF,List.length_set]; exact hd
theorem GV {n:Nat} (hn:bn<=n) (K:Fs->Option R):∀ (r:Nat) (i m:Nat) (f:Fs),eK f.Mem->f.Device.cq.length<=cL->i+r=400->r+2097160<m ->
  mb n (fun v eR dE fV jc lK gY pV=>K ⟨⟨⟨⟨eR,dE⟩,fV,jc⟩,lK,gY,v⟩,⟨pV⟩⟩) (fun yW pT dD oW iD fT zi r7=>K ⟨⟨⟨⟨pT,dD⟩,oW,iD⟩,fT,zi,yW⟩,⟨r7⟩⟩) m (i:Int) f.Mem.Next f.Mem.aa.aq.ab f.Mem.aa.aq.bD f.Mem.aa.ad f.Mem.aa.ab f.Mem.ak f.Mem.ae f.Device.cq=K (qw r f)
 | 0,i,0,f,h,h',h1,h2=>by omega
 | 0,i,m+1,f,h,h',h1,h2=>by
  simp only [mb]
  rw [show decide ((i:Int)<400)=false by simp; omega]
  rfl
 | r+1,i,0,f,h,h',h1,h2=>by omega
 | r+1,i,m+1,f,h,h',h1,h2=>by
  have SB:f.Mem.ak.length<=2097152:=h.dy
  simp only [mb]
  rw [show decide ((i:Int)<400)=true by simp; omega,bw]
  refine (GS (R:=R) f.Mem.ak (by omega) _ f.Mem.ak 0 m (by simp) (by omega) (by omega)).trans ?_
  rw [Nat.zero_add,dN]
  simp only [qw]
  cases gI f.Mem.ak==f.Mem.ak.length with
  | true=>rfl
  | false =>
   simp only [zF]
   refine (xe hn f h h' _ _).trans ?_
   cases !(dq f (gI f.Mem.ak)).2 with
   | true=>rfl
   | false =>
    simp only [zF]
    rw [bH (by omega)]
    have hz:=En hn f h h' (gI f.Mem.ak)
    exact GV hn K r (i+1) m _ hz.1 hz.2 (by omega) (by omega)
theorem Ls {n:Nat} (hn:bn<=n) (f:Fs) (hm:eK f.Mem) (hd:f.Device.cq.length<=cL) (k:Fs->Option R):oZ n f k=k (flush f):=by
 simp only [oZ]
 rw [vz hn f hm hd]
 exact GV hn k 400 0 n f hm hd rfl (aP hn (by omega))
theorem O3 {n:Nat} (hn:bn<=n) (f:Fs) (h:pI f) (k:Fs->Option R):oZ n f k=k (flush f):=Ls hn f h.m.sz (Ev h.d) k
def lq:List Node->Node->List Node
 | [],x=>[x]
 | y::r,x=>bif QD x.Path y.Path then y::lq r x else x::y::r
def zm (l:List Node):List Node:=l.foldl lq []
def uN (l:List Node):List Node:=(zm l).reverse
theorem og:∀ (l:List Node) (x:Node),(lq l x).length=l.length+1
 | [],x=>rfl
 | y::r,x=>by
  simp only [lq]
  cases QD x.Path y.Path with
  | true=>simp only [zE,zR]; rw [og r x]
  | false=>rfl
theorem Kw (q:List Node->Option R):∀ (r rest:List Node) (x:Node) (m:Nat),r.length<m->r.length+rest.length<=2097152->gO q m (r.length:Int) (r.reverse++x::rest)=q ((lq r x).reverse++rest)
 | r,rest,x,0,h,_=>by omega
 | [],rest,x,m+1,h,_=>by
  simp only [gO,List.length_nil]
  simp [lq,bf]
 | y::r,rest,x,m+1,h,hs=>by
  simp only [zR] at h hs
  have hlen:((y::r).reverse++x::rest).length=r.length+1+(rest.length+1):=by simp; omega
  have e0:(y::r).reverse++x::rest=r.reverse++y::x::rest:=by simp
  have g1:((y::r).reverse++x::rest).getD (r.length+1) eu=x:=ob eu (by simp)
  have g0:((y::r).reverse++x::rest).getD r.length eu=y:=by rw [e0]; exact ob eu (by simp)
  have s1:((y::r).reverse++x::rest).set (r.length+1) y=r.reverse++y::y::rest:=by
   rw [nC (a:=(y::r).reverse) y (by simp)]; simp
  have s0:(r.reverse++y::y::rest).set r.length x=r.reverse++x::y::rest:=nC x (by simp)
  simp only [gO,zR]
  rw [show aC (((r.length+1:Nat):Int)-1)=((r.length:Nat):Int) by rw [cy (by omega) (by omega)]; omega]
  simp only [zC,g1,g0,s1,s0,aJ,hlen]
  rw [show decide ((0:Int)<((r.length+1:Nat):Int))=true by rw [zD]; omega,show decide (r.length<r.length+1+(rest.length+1))=true by rw [zD]; omega,show decide (r.length+1<r.length+1+(rest.length+1))=true by simp]
  simp only [Bool.or_true,bf,Bool.true_and]
  simp only [lq]
  cases hc:QD x.Path y.Path with
  | false=>simp
  | true =>
   simp only [zE]
   rw [ai (by simp)]
   refine (Kw q r (y::rest) x m (by omega) (by simp only [zR]; omega)).trans ?_
   congr 1; simp
theorem JX (q:List Node->Option R):∀ (rest r:List Node) (m:Nat),r.length+rest.length+rest.length<m->r.length+rest.length<=2097152->fO q m (r.length:Int) (r.reverse++rest)=q (rest.foldl lq r).reverse
 | rest,r,0,h,_=>by omega
 | [],r,m+1,h,hs=>by
  simp [fO]
 | x::rest,r,m+1,h,hs=>by
  simp only [zR] at h hs
  simp only [fO]
  rw [show decide ((r.length:Int)<((r.reverse++x::rest).length:Int))=true by simp; omega,bw]
  refine (Kw _ r rest x m (by omega) (by omega)).trans ?_
  rw [bH (by omega),List.foldl_cons]
  have:=JX q rest (lq r x) m (by rw [og]; omega) (by rw [og]; omega)
  rw [og] at this
  exact this
theorem wP {n:Nat} (hn:bn<=n) (l:List Node) (hl:l.length<=cL) (k:List Node->Option R):jk n l k=k (uN l):=by
 have xi:l.length<=2097152:=hl
 simp only [jk,List.nil_append]
 rw [ai (cn (by omega))]
 cases l with
 | nil =>
  have Nc:100000000<=n:=hn
  match n,Nc with
  | n+1,_=>simp [fO,uN,zm]
 | cons a l =>
  simp only [zR] at xi
  exact JX k l [a] n (aP hn (by simp only [zR,List.length_nil]; omega)) (by simp only [zR,List.length_nil]; omega)
theorem DU (l:List Node):(uN l).length=l.length:=by
 have:∀ (l r:List Node),(l.foldl lq r).length=r.length+l.length:=by
  intro l
  induction l with
  | nil=>intro r; rfl
  | cons x l ih=>intro r; rw [List.foldl_cons,ih,og,zR]; omega
 simp only [uN,List.length_reverse,zm,this,List.length_nil,Nat.zero_add]
theorem Am:∀ (l:List Node) (x y:Node),y∈lq l x↔y=x\/y∈l
 | [],x,y=>by simp [lq]
 | z::r,x,y=>by
  simp only [lq]
  cases QD x.Path z.Path with
  | true=>simp only [zE,zI,Am r x y]; constructor<;>rintro (h | h | h)<;>simp [h]
  | false=>simp
theorem C5 (l:List Node) (y:Node):y∈uN l↔y∈l:=by
 have:∀ (l r:List Node),y∈l.foldl lq r↔y∈r\/y∈l:=by
  intro l
  induction l with
  | nil=>intro r; simp
  | cons x l ih=>intro r; rw [List.foldl_cons,ih,Am,zI,or_comm (a:=y=x),or_assoc]
 simp only [uN,List.mem_reverse,zm,this]; simp
def below (p top:ByteArray):Bool:=(p==top)||(decide ((top.size:Int)<(p.size:Int))&&(p.extract 0 (top.size+1)==top++S [47]))
theorem FJ (p top:ByteArray) (hp:p.size<=cL) (ht:top.size<=cL) (k:Bool->Option R):rn p top k=k (below p top):=by
 have yp:p.size<=2097152:=hp
 have Jq:top.size<=2097152:=ht
 have hS:(S [47]).size=1:=rfl
 simp only [rn,below]
 rw [bH (by omega),zC,ai,ai]
 ·rw [iK (by omega),Bool.or_true]
 ·cases hc:decide ((top.size:Int)<(p.size:Int)) with
  | false=>rw [Bool.and_false]; rfl
  | true =>
   rw [zD] at hc
   have:qd ((top.size+1:Nat):Int) p.size=true:=by simp only [qd,zB,zD]; omega
   rw [this,Bool.or_true]
def vx (e:Event) (x:Node):Node:=bif (!(x.Path==e.Path))||x.cp then x else bif e.At==0 then ⟨x.Path,x.cp,e.Text,x.Nt⟩ else ⟨x.Path,x.cp,x.Head,e.Text⟩
def BV (e:Event) (x:Node):Node:=bif (x.Path==e.Path)&&(!x.cp) then ⟨e.To,x.cp,x.Head,x.Nt⟩ else x
def dh (l:List Node) (e:Event):List Node :=
 bif (e.Kind==1)||(e.Kind==2) then uN (l++[⟨e.Path,e.Kind==2,eS,eS⟩]) else
 bif e.Kind==3 then l.map (vx e) else
 bif e.Kind==4 then l.filter (fun x=> !below x.Path e.Path) else
 bif e.Kind==5 then uN (l.map (BV e)) else l
theorem OT {n:Nat} (hn:bn<=n) (l:List Node) (hl:l.length<=cL) (e:Event) (q:List Node->Option R):cY e.Path e.At e.Text q n 0 l=q (l.map (vx e)):=by
 have xi:l.length<=2097152:=hl
 refine jA (R:=R) (L:=cY e.Path e.At e.Text q) (f:=vx e) (B:=0) (q:=q) (fun m a b x _ h=> ?_) (fun m a=> ?_) l [] n (by simp; omega) (aP hn (by omega))
 ·have g:(a++x::b).getD a.length eu=x:=ob eu rfl
  have s:∀ y,(a++x::b).set a.length y=a++y::b:=fun y=>nC y rfl
  simp only [cY,zC,g,s,aJ]
  rw [show decide ((a.length:Int)<((a++x::b).length:Int))=true by simp; omega,show decide (a.length<(a++x::b).length)=true by simp]
  simp only [zE,bf,Bool.or_true,vx]
  cases (!(x.Path==e.Path))||x.cp with
  | true=>rfl
  | false=>cases e.At==0<;>rfl
 ·simp [cY]
theorem LR {n:Nat} (hn:bn<=n) (l:List Node) (hl:l.length<=cL) (e:Event) (q:List Node->Option R):da e.Path e.To q n 0 l=q (l.map (BV e)):=by
 have xi:l.length<=2097152:=hl
 refine jA (R:=R) (L:=da e.Path e.To q) (f:=BV e) (B:=0) (q:=q) (fun m a b x _ h=> ?_) (fun m a=> ?_) l [] n (by simp; omega) (aP hn (by omega))
 ·have g:(a++x::b).getD a.length eu=x:=ob eu rfl
  have s:∀ y,(a++x::b).set a.length y=a++y::b:=fun y=>nC y rfl
  simp only [da,zC,g,s,aJ]
  rw [show decide ((a.length:Int)<((a++x::b).length:Int))=true by simp; omega,show decide (a.length<(a++x::b).length)=true by simp]
  simp only [zE,bf,Bool.or_true,BV]
  cases (x.Path==e.Path)&&(!x.cp)<;>rfl
 ·simp [da]
theorem Lw {n:Nat} (hn:bn<=n) (l:List Node) (hl:l.length<=cL) (hp:∀ x∈l,x.Path.size<=cL) (p:ByteArray) (nf:p.size<=cL) (q:List Node->Option R):dc p l q n 0 []=q (l.filter (fun x=> !below x.Path p)):=by
 have xi:l.length<=2097152:=hl
 refine oY (R:=R) (L:=dc p l q) eu (P:=fun x=> !below x.Path p) (B:=0) (q:=q) (by omega) (fun m i acc _ hi ha=> ?_) (fun m acc=>by simp [dc]) (aP hn (by omega))
 simp only [dc,br,aJ,hi,zV,zE,bf,zC]
 rw [FJ _ _ (hp _ (aY eu hi)) nf]
 cases below (l.getD i eu).Path p with
 | true=>rfl
 | false=>simp only [zN,zE]; rw [ai (cb ha (by omega) (by simp))]
theorem CL {n:Nat} (hn:bn<=n) (l:List Node) (hl:l.length<=1048576) (hp:∀ x∈l,x.Path.size<=cL) (e:Event) (he:e.Path.size<=cL) (k:List Node->Option R):lx n l e k=k (dh l e):=by
 have MR:l.length<=cL:=Nat.le_trans hl (by decide)
 have hla:∀ y,(l++[y]).length<=cL:=fun y=>by rw [zK,zL]; exact Nat.le_trans (Nat.succ_le_succ hl) (by decide)
 have Tl:(l.map (BV e)).length<=cL:=by rw [List.length_map]; exact MR
 have ok2:∀ y:Node,bg (l++[y])=true:=fun y=>cn (by rw [zK,zL]; omega)
 simp only [lx,dh,List.nil_append]
 rw [ai (cn (by omega))]
 simp only [ok2,bf]
 rw [OT hn l MR,Lw hn l MR hp _ he,LR hn l MR]
 simp only [wP hn _ (hla _),wP hn _ Tl]
 cases e.Kind==1<;>cases e.Kind==2<;>cases e.Kind==3<;>cases e.Kind==4<;>cases e.Kind==5<;>rfl
theorem Ba (s:ByteArray) (i:Nat):bt s i<256:=by rw [Kz]; exact UInt8.toNat_lt _
def Bq (s:ByteArray) (i:Nat):Bool:=(bt s (i/8)/2 ^ (i % 8)) % 2==1
def mz (s:ByteArray):aq×Bool:=bif s.size==3 then (⟨(List.range' 0 16).map (Bq s),(List.range' 16 8).map (Bq s)⟩,true) else (⟨[],[]⟩,false)
theorem yS (i:Nat) (q:Int->Option R):∀ (r k m x:Nat),k+r=i % 8->r<m->x<=1000000->iM (i:Int) q m (x:Int) (k:Int)=q ((x/2 ^ r:Nat):Int)
 | 0,k,0,x,h1,h2,h3=>by omega
 | 0,k,m+1,x,h1,h2,h3=>by
  simp only [iM]
  rw [Int.tmod_eq_emod_of_nonneg (by omega),show decide ((k:Int)<(i:Int) % 8)=false by simp; omega]
  simp
 | r+1,k,0,x,h1,h2,h3=>by omega
 | r+1,k,m+1,x,h1,h2,h3=>by
  simp only [iM]
  rw [Int.tmod_eq_emod_of_nonneg (by omega),show decide ((k:Int)<(i:Int) % 8)=true by rw [zD]; omega,bw,Int.tdiv_eq_ediv_of_nonneg (by omega),show (x:Int)/2=((x/2:Nat):Int) by omega,eC (by omega),bH (by omega),
   yS i q r (k+1) m (x/2) (by omega) (by omega) (by omega),Nat.div_div_eq_div_mul,Nat.pow_succ,Nat.mul_comm]
theorem Rx (x:Nat):(((x:Int).tmod 2)==1)=(x % 2==1):=by
 rw [Int.tmod_eq_emod_of_nonneg (by omega),show (x:Int) % 2=((x % 2:Nat):Int) by omega,show (1:Int)=((1:Nat):Int) from rfl,dN]
theorem uJ (s:ByteArray) (h3:s.size=3) (q:List Bool->List Bool->Option R) (m j:Nat) (hj:j<24) (hm:8<m) (a b:List Bool) (ha:a.length<=1000) (hb:b.length<=1000) :
  dx s q (m+1) (j:Int) a b=bif decide (j<16) then dx s q m ((j+1:Nat):Int) (a++[Bq s j]) b else dx s q m ((j+1:Nat):Int) a (b++[Bq s j]):=by
 have hb8:=Ba s (j/8)
 simp only [dx]
 rw [show decide ((j:Int)<24)=true by rw [zD]; omega,bw,Int.tdiv_eq_ediv_of_nonneg (by omega),show (j:Int)/8=((j/8:Nat):Int) by omega,eC (by omega),aJ,h3,show decide (j/8<3)=true by rw [zD]; omega,bf,zC,eC (by omega)]
 refine (yS (R:=R) j _ (j % 8) 0 m _ (by omega) (by omega) (by omega)).trans ?_
 rw [Rx,bH (by omega),ai (cb ha (by omega) (by simp)),ai (cb hb (by omega) (by simp)),show decide ((j:Int)<16)=decide (j<16) from decide_eq_decide.2 (by omega)]
 rfl
theorem wu (s:ByteArray) (h3:s.size=3) (q:List Bool->List Bool->Option R):∀ (r j m:Nat) (a b:List Bool),j+r=24->16<=j->a.length<=1000->b.length<=j->r+10<m->dx s q m (j:Int) a b=q a (b++(List.range' j r).map (Bq s))
 | 0,j,0,a,b,h1,h2,ha,hb,hm=>by omega
 | 0,j,m+1,a,b,h1,h2,ha,hb,hm=>by
  simp only [dx]
  rw [show decide ((j:Int)<24)=false by simp; omega]; simp
 | r+1,j,0,a,b,h1,h2,ha,hb,hm=>by omega
 | r+1,j,m+1,a,b,h1,h2,ha,hb,hm=>by
  rw [uJ s h3 q m j (by omega) (by omega) a b ha (by omega),decide_eq_false (by omega),bh,wu s h3 q r (j+1) m a _ (by omega) (by omega) ha (by rw [zK,zL]; omega) (by omega),List.range'_succ,List.map_cons,List.append_assoc]
  rfl
theorem wh (s:ByteArray) (h3:s.size=3) (q:List Bool->List Bool->Option R):∀ (r j m:Nat) (a:List Bool),j+r=16->a.length<=j->r+30<m->dx s q m (j:Int) a []=q (a++(List.range' j r).map (Bq s)) ((List.range' 16 8).map (Bq s))
 | 0,j,m,a,h1,ha,hm=>by
  have:j=16:=by omega
  subst this
  rw [wu s h3 q 8 16 m a [] rfl (by omega) (by omega) (by simp) (by omega)]; simp
 | r+1,j,0,a,h1,ha,hm=>by omega
 | r+1,j,m+1,a,h1,ha,hm=>by
  rw [uJ s h3 q m j (by omega) (by omega) a [] (by omega) (by simp),decide_eq_true (by omega),bw,wh s h3 q r (j+1) m _ (by omega) (by rw [zK,zL]; omega) (by omega),List.range'_succ,List.map_cons,List.append_assoc]
  rfl
theorem Hj {n:Nat} (hn:bn<=n) (s:ByteArray) (k:aq->Bool->Option R):qo n s k=k (mz s).1 (mz s).2:=by
 simp only [qo,mz]
 rw [show (3:Int)=((3:Nat):Int) from rfl,dN]
 cases h:s.size==3 with
 | false=>rfl
 | true =>
  simp only [zM,zF,zE]
  exact wh s (by simpa using h) _ 16 0 n [] rfl (by simp) (aP hn (by omega))
def sv (s:ByteArray):aX:=⟨bt s 0,bt s 1,[(bt s 2:Int),(bt s 3:Int)]⟩
def gT (s:ByteArray):aX×Bool:=bif (s.size==4)&&bx (sv s) then (sv s,true) else (⟨0,0,[]⟩,false)
theorem Fb {n:Nat} (hn:bn<=n) (s:ByteArray) (k:aX->Bool->Option R):po n s k=k (gT s).1 (gT s).2:=by
 simp only [po,gT]
 rw [show (4:Int)=((4:Nat):Int) from rfl,dN]
 cases h:s.size==4 with
 | false=>rfl
 | true =>
  have h4:s.size=4:=by simpa using h
  have b0:=Ba s 0
  have b1:=Ba s 1
  have b2:=Ba s 2
  have b3:=Ba s 3
  simp only [zM,zF,Bool.true_and,h4]
  rw [eC (by omega),eC (by omega),eC (by omega),eC (by omega),ai (by rfl),ai (by rfl),ai (by rfl),ai (by rfl),ve hn]
  show (bif !bx (sv s) then _ else _)=_
  cases bx (sv s)<;>rfl
def LS (t:ByteArray) (b:Nat):Nat->Nat->Nat->Nat->Int×Int×Bool
 | 0,_,_,_=>(0,0,false)
 | f+1,x,sc,i=>bif decide (i<t.size) then
   bif decide (bt t i<128) then
    bif decide (1000000000<x+bt t i % 128*sc)|| !(Jf (x+bt t i % 128*sc)==t.extract b (i+1)) then (0,0,false) else (((x+bt t i % 128*sc:Nat):Int),((i+1:Nat):Int),true)
   else LS t b f (x+bt t i % 128*sc) (sc*128) (i+1)
  else (0,0,false)
def eP (t:ByteArray) (b:Int):Int×Int×Bool:=bif within b 0 t.size then LS t b.toNat 5 0 1 b.toNat else (0,0,false)
theorem BB {n:Nat} (hn:bn<=n) (t:ByteArray) (ht:t.size<=cL) (b:Nat) (hb:b<=t.size) (q:Int->Int->Bool->Option R):∀ (f x sc i m:Nat),i+f=b+5->b<=i->sc<=128 ^ (5-f)->x<=128 ^ (5-f)->f<m ->
  jJ n t (b:Int) q (q 0 0 false) m (x:Int) (sc:Int) (i:Int)=q (LS t b f x sc i).1 (LS t b f x sc i).2.1 (LS t b f x sc i).2.2
 | 0,x,sc,i,0,h1,h2,h3,h4,h5=>by omega
 | 0,x,sc,i,m+1,h1,h2,h3,h4,h5=>by
  have Jq:t.size<=2097152:=ht
  simp only [jJ,LS]
  rw [cy (n:=(b:Int)+5) (by omega) (by omega),show decide ((i:Int)<(b:Int)+5)=false by simp; omega,Bool.and_false]
  rfl
 | f+1,x,sc,i,0,h1,h2,h3,h4,h5=>by omega
 | f+1,x,sc,i,m+1,h1,h2,h3,h4,h5=>by
  have Jq:t.size<=2097152:=ht
  have hbt:=Ba t i
  have hf:f<=4:=by omega
  have hp:128 ^ (5-(f+1))<=128 ^ 4:=Nat.pow_le_pow_right (by decide) (by omega)
  have hp4:(128:Nat) ^ 4=268435456:=by decide
  have hps:128 ^ (5-f)=128 ^ (5-(f+1))*128:=by rw [← Nat.pow_succ]; congr 1; omega
  have hmul:bt t i % 128*sc<=127*sc:=zP _ (by omega)
  simp only [jJ,LS]
  rw [cy (n:=(b:Int)+5) (by omega) (by omega),show decide ((i:Int)<(b:Int)+5)=true by rw [zD]; omega,Bool.and_true,br]
  cases hi:decide (i<t.size) with
  | false=>rfl
  | true =>
   simp only [zE,aJ,hi,bf,zC]
   have e1:aC (((aC ((bt t i:Nat):Int)).tmod 128)*(sc:Int))=((bt t i % 128*sc:Nat):Int):=by
    rw [eC (by omega),Int.tmod_eq_emod_of_nonneg (by omega),show ((bt t i:Nat):Int) % 128=((bt t i % 128:Nat):Int) by omega,← Int.natCast_mul,eC (by omega)]
   have e2:aC ((x:Int)+((bt t i % 128*sc:Nat):Int))=((x+bt t i % 128*sc:Nat):Int):=by rw [← Int.natCast_add,eC (by omega)]
   simp only [e1,e2]
   rw [bH (by omega),show decide (((bt t i:Nat):Int)<128)=decide (bt t i<128) from decide_eq_decide.2 (by omega)]
   cases hc:decide (bt t i<128) with
   | true =>
    simp only [zE]
    rw [DX hn _ (by omega),show decide ((1000000000:Int)<((x+bt t i % 128*sc:Nat):Int))=decide (1000000000<x+bt t i % 128*sc) from decide_eq_decide.2 (by omega),zC,
     show j7 (b:Int) ((i+1:Nat):Int) t.size=true by rw [zD] at hi; simp only [j7,zB,zD]; omega,Bool.or_true,bf]
    cases decide (1000000000<x+bt t i % 128*sc) with
    | true=>rfl
    | false =>
     simp only [zN,zE,Bool.false_or]
     cases Jf (x+bt t i % 128*sc)==t.extract b (i+1)<;>rfl
   | false =>
    simp only [zF]
    rw [show (sc:Int)*128=((sc*128:Nat):Int) by omega,eC (by omega)]
    exact BB hn t ht b hb q f _ (sc*128) (i+1) m (by omega) (by omega) (by omega) (by omega) (by omega)
theorem IM {n:Nat} (hn:bn<=n) (t:ByteArray) (ht:t.size<=cL) (b:Int) (k:Int->Int->Bool->Option R):uh n t b k=k (eP t b).1 (eP t b).2.1 (eP t b).2.2:=by
 simp only [uh,eP,iZ]
 cases h:within b 0 t.size with
 | false=>rfl
 | true =>
  rw [aj] at h
  simp only [zM,zF,zE]
  obtain ⟨c,rfl⟩:=Int.eq_ofNat_of_zero_le h.1
  exact BB hn t ht c (by omega) k 5 0 1 c n (by omega) (by omega) (by decide) (by decide) (aP hn (by omega))
theorem DC (t:ByteArray) (b:Nat):∀ (f x sc i:Nat),(LS t b f x sc i)=(0,0,false)\/(0<=(LS t b f x sc i).1/\(LS t b f x sc i).1<=1000000000/\1<=(LS t b f x sc i).2.1/\(LS t b f x sc i).2.1<=t.size)
 | 0,x,sc,i=> .inl rfl
 | f+1,x,sc,i=>by
  simp only [LS]
  cases hi:decide (i<t.size) with
  | false=>exact .inl rfl
  | true =>
   rw [zD] at hi
   simp only [zE]
   cases decide (bt t i<128) with
   | false=>exact DC t b f _ _ _
   | true =>
    simp only [zE]
    cases hc:decide (1000000000<x+bt t i % 128*sc)|| !(Jf (x+bt t i % 128*sc)==t.extract b (i+1)) with
    | true=>exact .inl rfl
    | false =>
     rw [Bool.or_eq_false_iff,decide_eq_false_iff_not] at hc
     refine .inr ⟨?_,?_,?_,?_⟩<;>simp only [zF]<;>omega
theorem uT (t:ByteArray) (b:Int):(eP t b)=(0,0,false)\/(0<=(eP t b).1/\(eP t b).1<=1000000000/\1<=(eP t b).2.1/\(eP t b).2.1<=t.size):=by
 simp only [eP]
 cases within b 0 t.size with
 | false=>exact .inl rfl
 | true=>exact DC t _ _ _ _ _
def fJ (t:ByteArray) (b:Int):ByteArray×Int×Bool :=
 bif ((!(eP t b).2.2)||decide (20000<(eP t b).1))||decide ((t.size:Int)-(eP t b).2.1<(eP t b).1) then (eS,0,false) else
 (t.extract (eP t b).2.1.toNat ((eP t b).2.1+(eP t b).1).toNat,(eP t b).2.1+(eP t b).1,true)
theorem Ff {n:Nat} (hn:bn<=n) (t:ByteArray) (ht:t.size<=cL) (b:Int) (k:ByteArray->Int->Bool->Option R):pb n t b k=k (fJ t b).1 (fJ t b).2.1 (fJ t b).2.2:=by
 have Jq:t.size<=2097152:=ht
 simp only [pb,fJ]
 rw [IM hn t ht]
 rcases uT t b with h | ⟨h1,h2,h3,h4⟩
 ·rw [h]; rfl
 ·generalize eP t b=r at *
  rw [cy (n:=(t.size:Int)-r.2.1) (by omega) (by omega),cy (n:=r.2.1+r.1) (by omega) (by omega)]
  cases hc:((!r.2.2)||decide (20000<r.1))||decide ((t.size:Int)-r.2.1<r.1) with
  | true=>rfl
  | false =>
   simp only [Bool.or_eq_false_iff,decide_eq_false_iff_not] at hc
   simp only [zF]
   rw [ai (by simp only [j7,zB,zD]; omega)]
theorem ze (t:ByteArray) (b:Int):(fJ t b)=(eS,0,false)\/((fJ t b).1.size<=t.size/\1<=(fJ t b).2.1/\(fJ t b).2.1<=t.size):=by
 simp only [fJ]
 rcases uT t b with h | ⟨h1,h2,h3,h4⟩
 ·rw [h]; exact .inl rfl
 ·generalize eP t b=r at *
  cases hc:((!r.2.2)||decide (20000<r.1))||decide ((t.size:Int)-r.2.1<r.1) with
  | true=>exact .inl rfl
  | false =>
   simp only [Bool.or_eq_false_iff,decide_eq_false_iff_not] at hc
   refine .inr ⟨?_,?_,?_⟩<;>simp only [zF]
   ·rw [ByteArray.size_extract]; omega
   ·omega
   ·omega
def Tb (s:ByteArray):Nat->Int->List Slot->Option (List Slot)
 | 0,_,acc=>some acc
 | f+1,at',acc=>bif decide (at'<(s.size:Int)) then
   bif (fJ s (at'+1)).2.2 then Tb s f (fJ s (at'+1)).2.1 (acc++[⟨(fJ s (at'+1)).1,bt s at'.toNat⟩]) else none
  else some acc
def lT (b:Block) (s:ByteArray):Block×Bool:=bif (!bF b)|| !(nS b==s) then (⟨false,[],eS⟩,false) else (b,true)
def kW (s:ByteArray):Block×Bool:=bif s==eS then (⟨false,[],eS⟩,false) else
 bif bt s 0==100 then (match Tb s 4 1 [] with | none=>(⟨false,[],eS⟩,false) | some l=>lT ⟨true,l,eS⟩ s) else lT ⟨false,[],s.extract 1 s.size⟩ s
theorem wq {n:Nat} (hn:bn<=n) (s:ByteArray) (hs:s.size<=cL) (q0:Bool->Bool->ByteArray->List Slot->Option R) (q1:List Slot->Option R):∀ (f i m:Nat) (a:Int) (acc:List Slot),i+f=4->f<m->1<=a->acc.length=i->(∀ x∈acc,x.Name.size<=s.size) ->
  gS n s q0 q1 m a (i:Int) acc=(match Tb s f a acc with | none=>q0 false false eS [] | some l=>q1 l)/\∀ l,Tb s f a acc=some l->l.length<=4/\∀ x∈l,x.Name.size<=s.size
 | f,i,0,a,acc,h1,h2,h3,h4,h5=>by omega
 | 0,i,m+1,a,acc,h1,h2,h3,h4,h5=>by
  simp only [gS,Tb]
  rw [show decide ((i:Int)<4)=false by simp; omega,Bool.false_and]
  exact ⟨rfl,fun l hl=>by cases hl; exact ⟨by omega,h5⟩⟩
 | f+1,i,m+1,a,acc,h1,h2,h3,h4,h5=>by
  have Cl:s.size<=2097152:=hs
  simp only [gS,Tb]
  rw [show decide ((i:Int)<4)=true by rw [zD]; omega,Bool.true_and]
  cases hc:decide (a<(s.size:Int)) with
  | false=>exact ⟨rfl,fun l hl=>by cases hl; exact ⟨by omega,h5⟩⟩
  | true =>
   rw [zD] at hc
   have hb:=Ba s a.toNat
   simp only [zE]
   rw [cy (n:=a+1) (by omega) (by omega),Ff hn s hs]
   rcases ze s (a+1) with h | ⟨r1,r2,r3⟩
   ·rw [h]; exact ⟨rfl,fun l hl=>by cases hl⟩
   ·generalize fJ s (a+1)=r at *
    cases hr:r.2.2 with
    | false=>exact ⟨rfl,fun l hl=>by cases hl⟩
    | true =>
     simp only [zM,zF,zE]
     rw [ai (by simp only [bc,zB,zD]; omega),eC (n:=bt s a.toNat) (by omega),ai (cb (i:=i) (by omega) (by omega) (by simp)),bH (by omega)]
     exact wq hn s hs q0 q1 f (i+1) m r.2.1 _ (by omega) (by omega) r2 (by rw [zK,h4,zL]) (fun x hx=>by
      rcases zH.1 hx with hx | hx
      ·exact h5 x hx
      ·rw [zS] at hx; subst hx; exact r1)
theorem Eg {n:Nat} (hn:bn<=n) (s:ByteArray) (hs:s.size<=cL) (k:Block->Bool->Option R):o0 n s k=k (kW s).1 (kW s).2:=by
 have Cl:s.size<=2097152:=hs
 simp only [o0,kW]
 cases h0:s==eS with
 | true=>rfl
 | false =>
  have hp:0<s.size:=Nat.pos_of_ne_zero fun z=>by
   rw [beq_eq_false_iff_ne] at h0
   apply h0
   apply ByteArray.ext
   exact Array.eq_empty_of_size_eq_zero z
  simp only [zF]
  rw [ai (by simp only [qd,zB,zD]; omega),ai (by simp only [bc,zB,zD]; omega),show (100:Int)=((100:Nat):Int) from rfl,dN]
  have back:∀ (b:Block),wz b->∀ k:Block->Bool->Option R,(g6 n b fun r c8=>bif (!c8)||(!(r==s)) then k ⟨false,[],eS⟩ false else k b true)=k (lT b s).1 (lT b s).2:=fun b hb k=>by
   rw [w6 hn b hb]
   simp only [lT]
   cases (!bF b)||(!(nS b==s))<;>rfl
  cases bt s 0==100 with
  | true =>
   simp only [zE]
   have:=wq (R:=R) hn s hs (fun x v eR dE=>k ⟨v,dE,eR⟩ x) (fun fV=>g6 n ⟨true,fV,eS⟩ fun r c8=>bif (!c8)||(!(r==s)) then k ⟨false,[],eS⟩ false else k ⟨true,fV,eS⟩ true) 4 0 n 1 [] rfl (aP hn (by omega)) (by decide) rfl (fun x hx=>by cases hx)
   refine this.1.trans ?_
   cases hl:Tb s 4 1 [] with
   | none=>rfl
   | some l =>
    have h2:=this.2 l hl
    exact back _ ⟨Nat.le_trans h2.1 (by decide),by show eS.size<=cL; decide,fun x hx=>Nat.le_trans (h2.2 x hx) hs⟩ k
  | false =>
   simp only [zF]
   exact back _ ⟨Nat.zero_le _,by show (s.extract 1 s.size).size<=cL; rw [ByteArray.size_extract]; exact Nat.le_trans (by omega) hs,fun x hx=>by cases hx⟩ k
theorem D2 (s:ByteArray):bF (kW s).1=true:=by
 have h0:bF ⟨false,[],eS⟩=true:=rfl
 have hb:∀ b,bF (lT b s).1=true:=fun b=>by
  simp only [lT]
  cases h:bF b with
  | false=>exact h0
  | true=>cases nS b==s<;>first | exact h0 | exact h
 simp only [kW]
 cases s==eS with
 | true=>exact h0
 | false =>
  cases bt s 0==100 with
  | true =>
   simp only [zE,zF]
   cases Tb s 4 1 [] with
   | none=>exact h0
   | some l=>exact hb _
  | false=>exact hb _
def tB (s:ByteArray) (j:Nat):aX:=bif s.size==8 then (bif (gT (s.extract (4*j) (4*j+4))).2 then (gT (s.extract (4*j) (4*j+4))).1 else ba 0) else ba 0
def jn (d:Device) (u:Nat):ByteArray:=d.cq.getD u eS
def AA (d:Device):aq:=bif (mz (jn d 0)).2 then (mz (jn d 0)).1 else ⟨List.replicate 16 true,List.replicate 8 true⟩
def mB (d:Device):aa:=⟨AA d,(List.range' 0 8).map fun i=>tB (jn d (1+i/2)) (i % 2),(List.range' 0 16).map fun i=>(kW (jn d (5+i))).1⟩
def Fg (d:Device):aa×Bool:=bif dV d then (mB d,true) else (⟨⟨[],[]⟩,[],[]⟩,false)
theorem D6 (s:ByteArray) (h:(gT s).2=true):bx (gT s).1=true:=by
 revert h
 simp only [gT]
 cases hc:(s.size==4)&&bx (sv s) with
 | false=>intro h; cases h
 | true=>intro _; rw [zB] at hc; exact hc.2
theorem Ia (s:ByteArray) (j:Nat):bx (tB s j)=true:=by
 simp only [tB]
 cases s.size==8 with
 | false=>rfl
 | true =>
  simp only [zE]
  cases h:(gT (s.extract (4*j) (4*j+4))).2 with
  | false=>rfl
  | true=>exact D6 _ h
theorem IP (d:Device):(AA d).ab.length=16/\(AA d).bD.length=8:=by
 simp only [AA,mz]
 cases (jn d 0).size==3 with
 | false=>exact ⟨rfl,rfl⟩
 | true=>exact ⟨by simp,by simp⟩
theorem lG.of (d:Device):lG (mB d):=by
 have:=IP d
 refine ⟨this.1,this.2,by simp [mB],by simp [mB],fun x hx=> ?_,fun b hb=> ?_⟩
 ·simp only [mB,List.mem_map] at hx
  obtain ⟨i,_,rfl⟩:=hx
  exact Ia _ _
 ·simp only [mB,List.mem_map] at hb
  obtain ⟨i,_,rfl⟩:=hb
  exact D2 _
theorem R5 (q:List Bool->Option R):∀ (b a:List Bool) (n:Nat),a.length+b.length<=1000->b.length<n->jt q n (a.length:Int) (a++b)=q (a++b.map fun _=>true):=fun b a n h1 h2 =>
 jA (R:=R) (L:=jt q) (f:=fun _=>true) (B:=0) (q:=q) (fun m a b x _ h=>by
  have s:(a++x::b).set a.length true=a++true::b:=nC true rfl
  simp only [jt,zC,s,aJ]
  rw [show decide ((a.length:Int)<((a++x::b).length:Int))=true by simp; omega,show decide (a.length<(a++x::b).length)=true by simp]
  rfl) (fun m a=>by simp [jt]) b a n (by omega) (by omega)
theorem N5 (q:List Bool->Option R):∀ (b a:List Bool) (n:Nat),a.length+b.length<=1000->b.length<n->hZ q n (a.length:Int) (a++b)=q (a++b.map fun _=>true):=fun b a n h1 h2 =>
 jA (R:=R) (L:=hZ q) (f:=fun _=>true) (B:=0) (q:=q) (fun m a b x _ h=>by
  have s:(a++x::b).set a.length true=a++true::b:=nC true rfl
  simp only [hZ,zC,s,aJ]
  rw [show decide ((a.length:Int)<((a++x::b).length:Int))=true by simp; omega,show decide (a.length<(a++x::b).length)=true by simp]
  rfl) (fun m a=>by simp [hZ]) b a n (by omega) (by omega)
theorem HV {n:Nat} (hn:bn<=n) (d:Device) (h:d.cq.length=21) (q:List aX->Option R):eM n d.cq q n 0 []=q ((List.range' 0 8).map fun i=>tB (jn d (1+i/2)) (i % 2)):=by
 refine qS (R:=R) (L:=eM n d.cq q) (N:=8) (f:=fun i=>tB (jn d (1+i/2)) (i % 2)) (B:=0) (q:=q) (by omega) (fun m i acc _ hi ha=> ?_) (fun m acc=>by simp [eM]) 8 0 n [] rfl rfl (aP hn (by omega))
 simp only [eM]
 rw [show decide ((i:Int)<8)=true by rw [zD]; omega,bw,Int.tdiv_eq_ediv_of_nonneg (by omega),Int.tmod_eq_emod_of_nonneg (by omega),show (i:Int)/2=((i/2:Nat):Int) by omega,show (i:Int) % 2=((i % 2:Nat):Int) by omega,
  eC (n:=i/2) (by omega),show (1:Int)+((i/2:Nat):Int)=((1+i/2:Nat):Int) by omega,eC (n:=1+i/2) (by omega),show (4:Int)*((i % 2:Nat):Int)=((4*(i % 2):Nat):Int) by omega,eC (n:=4*(i % 2)) (by omega),
  show ((4*(i % 2):Nat):Int)+4=((4*(i % 2)+4:Nat):Int) by omega,eC (n:=4*(i % 2)+4) (by omega),aJ,h,show decide (1+i/2<21)=true by rw [zD]; omega,bf,jv]
 simp only [zC]
 rw [show (8:Int)=((8:Nat):Int) from rfl,dN]
 have Vj:∀ y:aX,bg (acc++[y])=true:=fun y=>cb (i:=i) (by omega) (by omega) (by simp)
 show (bif (jn d (1+i/2)).size==8 then _ else _)=_
 simp only [tB]
 cases h8:(jn d (1+i/2)).size==8 with
 | false=>simp only [zF]; rw [ai (Vj _)]
 | true =>
  have Yb:(jn d (1+i/2)).size=8:=by simpa using h8
  simp only [zE]
  rw [ai (by show j7 _ _ (jn d (1+i/2)).size=true; rw [Yb]; simp only [j7,zB,zD]; omega),Fb hn]
  show (bif (gT ((jn d (1+i/2)).extract (4*(i % 2)) (4*(i % 2)+4))).2 then _ else _)=_
  cases (gT ((jn d (1+i/2)).extract (4*(i % 2)) (4*(i % 2)+4))).2 with
  | true=>simp only [zE]; rw [ai (Vj _)]; rfl
  | false=>simp only [zF]; rw [ai (Vj _)]
theorem Il {n:Nat} (hn:bn<=n) (d:Device) (h:d.cq.length=21) (hs:∀ s∈d.cq,s.size<=cL) (q:List Block->Option R):gy n d.cq q n 0 []=q ((List.range' 0 16).map fun i=>(kW (jn d (5+i))).1):=by
 refine qS (R:=R) (L:=gy n d.cq q) (N:=16) (f:=fun i=>(kW (jn d (5+i))).1) (B:=0) (q:=q) (by omega) (fun m i acc _ hi ha=> ?_) (fun m acc=>by simp [gy]) 16 0 n [] rfl rfl (aP hn (by omega))
 simp only [gy]
 rw [show decide ((i:Int)<16)=true by rw [zD]; omega,bw,show (5:Int)+(i:Int)=((5+i:Nat):Int) by omega,eC (n:=5+i) (by omega),aJ,h,show decide (5+i<21)=true by rw [zD]; omega,bf,zC]
 refine (Eg hn _ (hs _ (aY eS (by omega))) _).trans ?_
 rw [ai (cb (i:=i) (by omega) (by omega) (by simp))]
 rfl
theorem NI {d:Device} (h:dV d=true):∀ s∈d.cq,s.size<=60:=fun s hs=>by
 simp only [dV,zB,List.all_eq_true] at h
 have:=h.1 s hs
 simp only [CZ,Bool.not_eq_true',decide_eq_false_iff_not] at this
 omega
theorem LA {n:Nat} (hn:bn<=n) (d:Device) (hd:d.cq.length<=cL) (k:aa->Bool->Option R):nX n d k=k (Fg d).1 (Fg d).2:=by
 simp only [nX,Fg]
 rw [ta hn d hd]
 cases h:dV d with
 | false=>rfl
 | true =>
  have Qk:=ND h
  have mi:∀ s∈d.cq,s.size<=cL:=fun s hs=>Nat.le_trans (NI h s hs) (by decide)
  simp only [zM,zF,zE]
  rw [ai (by rw [Qk]; rfl),Hj hn]
  have l17:=fun q=>HV (R:=R) hn d Qk q
  have l27:=fun q=>Il (R:=R) hn d Qk mi q
  show (bif !(mz (jn d 0)).2 then _ else _)=_
  simp only [mB,AA]
  cases (mz (jn d 0)).2 with
  | true =>
   simp only [zM,zF,zE]
   rw [l17,l27]; rfl
  | false =>
   simp only [zN,zF,zE,lU]
   rw [ai (by rfl)]
   refine (R5 _ (List.replicate 16 false) [] n (by decide) (aP hn (by decide))).trans ?_
   refine (N5 _ ((List.replicate 8 false).set 0 true) [] n (by decide) (aP hn (by decide))).trans ?_
   rw [l17,l27]; rfl
def ll (l:List Node):List ByteArray:=eS::(l.filter (·.cp)).map (·.Path)
def fD (l:List Node):List ByteArray:=(l.filter fun x=> !x.cp).map (·.Path)
def vf (l:List Node) (p:ByteArray):Prop:=∃ d∈ll l,∃ x∈pM,p=(d++S [47])++x
def H8:List ByteArray:=[eS,S [120],S [104,101,108,108,111],S [48,49,50,51,52,53,54,55,56,57,97,98,99,100,101,102]]
inductive lh (l:List Node):Event->Prop
 | make (k:Int) (p:ByteArray):k=1\/k=2->vf l p->lh l ⟨k,p,eS,0,eS⟩
 | write (p:ByteArray) (a:Int) (t:ByteArray):(p∈fD l\/p=S [47,97])->a=0\/a=1->t∈H8->lh l ⟨3,p,eS,a,t⟩
 | remove (p:ByteArray):(p∈l.map (·.Path)\/p=S [47,98])->lh l ⟨4,p,eS,0,eS⟩
 | move (p q:ByteArray):(p∈fD l\/p=S [47,97])->vf l q->lh l ⟨5,p,q,0,eS⟩
 | back (u:Int):0<=u->u<=20->lh l ⟨6,eS,eS,u,eS⟩
 | flush:lh l ⟨7,eS,eS,0,eS⟩
theorem R9 {n:Nat} (hn:bn<=n) (l:List Node) (hl:l.length<=1048576) (q:List ByteArray->List ByteArray->List ByteArray->Option R):fo l q n 0 [] [eS] []=q (fD l) (ll l) (l.map (·.Path)):=by
 have key:∀ (r i m:Nat) (a b c:List ByteArray),i+r=l.length->r<m->a.length<=i->b.length<=i+1->c.length<=i ->
   fo l q m (i:Int) a b c=q (a++((l.drop i).filter fun x=> !x.cp).map (·.Path)) (b++((l.drop i).filter (·.cp)).map (·.Path)) (c++(l.drop i).map (·.Path)):=by
  intro r
  induction r with
  | zero =>
   intro i m a b c h1 h2 h3 h4 h5
   cases m with
   | zero=>omega
   | succ m =>
    have:i=l.length:=by omega
    subst this
    simp [fo]
  | succ r ih =>
   intro i m a b c h1 h2 h3 h4 h5
   cases m with
   | zero=>omega
   | succ m =>
    have hi:i<l.length:=by omega
    simp only [fo,br,aJ,hi,zV,zE,bf,zC]
    rw [ai (cb (i:=i) h5 (by omega) (by simp)),bH (by omega),cK eu hi]
    generalize l.getD i eu=el
    cases hd:el.cp with
    | true =>
     simp only [zE]
     rw [ai (cb (i:=i+1) h4 (by omega) (by simp)),ih (i+1) m _ _ _ (by omega) (by omega) (by omega) (by rw [zK,zL]; omega) (by rw [zK,zL]; omega)]
     simp [List.filter_cons,hd]
    | false =>
     simp only [zF]
     rw [ai (cb (i:=i) h3 (by omega) (by simp)),ih (i+1) m _ _ _ (by omega) (by omega) (by rw [zK,zL]; omega) (by omega) (by rw [zK,zL]; omega)]
     simp [List.filter_cons,hd]
 exact key l.length 0 n [] [eS] [] (by omega) (aP hn (by omega)) (by simp) (by simp) (by simp)
theorem Oc {n:Nat} (hn:bn<=n) (y:List Bool) (hy:y.length=21):∃ l:List Int,l.length<=21/\(∀ u∈l,0<=u/\u<=20)/\∀ q:List Int->Option R,cX y q n 0 []=q l:=by
 have key:∀ (r i:Nat) (a:List Int),i+r=21->a.length<=i->(∀ u∈a,0<=u/\u<=20)->∃ l:List Int,l.length<=21/\(∀ u∈l,0<=u/\u<=20)/\∀ (m:Nat) (q:List Int->Option R),r<m->cX y q m (i:Int) a=q l:=by
  intro r
  induction r with
  | zero =>
   intro i a h1 h2 h3
   refine ⟨a,by omega,h3,fun m q hm=> ?_⟩
   cases m with
   | zero=>omega
   | succ m=>simp only [cX,br,hy]; rw [show decide (i<21)=false by simp; omega]; rfl
  | succ r ih =>
   intro i a h1 h2 h3
   have hi:i<y.length:=by omega
   cases hb:y.getD i false with
   | true =>
    obtain ⟨l,l1,l2,l3⟩:=ih (i+1) (a++[(i:Int)]) (by omega) (by rw [zK,zL]; omega) (fun u hu=>by
     rcases zH.1 hu with hu | hu
     ·exact h3 u hu
     ·rw [zS] at hu; subst hu; omega)
    refine ⟨l,l1,l2,fun m q hm=> ?_⟩
    cases m with
    | zero=>omega
    | succ m =>
     simp only [cX,br,aJ,hi,zV,zE,bf,zC,hb]
     rw [ai (cb (i:=i) h2 (by omega) (by simp)),bH (by omega)]
     exact l3 m q (by omega)
   | false =>
    obtain ⟨l,l1,l2,l3⟩:=ih (i+1) a (by omega) (by omega) h3
    refine ⟨l,l1,l2,fun m q hm=> ?_⟩
    cases m with
    | zero=>omega
    | succ m =>
     simp only [cX,br,aJ,hi,zV,zE,zF,bf,zC,hb]
     rw [bH (by omega)]
     exact l3 m q (by omega)
 obtain ⟨l,l1,l2,l3⟩:=key 21 0 [] rfl (by simp) (fun u hu=>by cases hu)
 exact ⟨l,l1,l2,fun q=>l3 n q (aP hn (by omega))⟩
theorem ti {x:ByteArray} (h:x∈pM):x.size<=2:=by
 simp only [pM,zI,List.not_mem_nil,or_false] at h
 rcases h with rfl | rfl | rfl | rfl | rfl<;>decide
theorem Mp {n:Nat} (hn:bn<=n) (w:World) (hl:w.Model.length<=1048576) (hp:∀ x∈w.Model,x.Path.size<=1000) (hy:w.Fs.Mem.ak.length=21) (c:dP) (hc:uq c):∃ e c',Cn c c'/\lh w.Model e/\∀ k:Event->dP->Option R,ei n w c k=k e c':=by
 obtain ⟨r,c1,hr,bQ,e1⟩:=eN (R:=R) [1,1,1,2,2,3,3,3,4,4,5,5,6,6,6,6,6,6,6,7] (by decide) (by decide) c hc
 have Ck:(ll w.Model).length<=1048577:=by simp only [ll,zR,List.length_map]; have:=List.length_filter_le (·.cp) w.Model; omega
 have zX:(fD w.Model).length<=1048576:=by simp only [fD,List.length_map]; have:=List.length_filter_le (fun x=> !x.cp) w.Model; omega
 have Wv:0<(ll w.Model).length:=by simp [ll]
 obtain ⟨a,c2,a1,a2,eL,e2⟩:=bu (R:=R) ((ll w.Model).length:Int) (by omega) (by omega) c1 bQ.1
 obtain ⟨x,c3,hx,hY,e3⟩:=CW (R:=R) c2 eL.1
 have Zd:=aY eS (show a.toNat<(ll w.Model).length by omega)
 generalize Jm:(ll w.Model).getD a.toNat eS=d at Zd
 have hF:vf w.Model ((d++S [47])++x):=⟨d,Zd,x,hx,rfl⟩
 have hds:d.size<=1000:=by
  simp only [ll,zI,List.mem_map,List.mem_filter] at Zd
  rcases Zd with rfl | ⟨z,hz,rfl⟩
  ·decide
  ·exact hp z hz.1
 have hS:(S [47]).size=1:=rfl
 have Tv:=ti hx
 have ok1:lV d (S [47])=true:=iK (by omega)
 have ok2:lV (d++S [47]) x=true:=iK (by rw [ByteArray.size_append]; omega)
 have b2:=bQ.tr eL
 have b3:=b2.tr hY
 have inA:bc a (ll w.Model).length=true:=by simp only [bc,zB,zD]; omega
 have start:∀ (r':Int) (K:List ByteArray->List ByteArray->List ByteArray->Option R),fo w.Model K n 0 [] [eS] []=K (fD w.Model) (ll w.Model) (w.Model.map (·.Path)):=fun _ K=>R9 hn w.Model hl K
 have cz:r=1\/r=2\/r=3\/r=4\/r=5\/r=6\/r=7:=by
  simp only [zI,List.not_mem_nil,or_false] at hr; omega
 rcases cz with rfl | rfl | rfl | rfl | rfl | rfl | rfl
 ·refine ⟨_,c3,b3,.make 1 _ (.inl rfl) hF,fun k=> ?_⟩
  simp only [ei]
  rw [e1,start 0,bQ.mk',e2,ai inA,Jm,ai ok1,b2.mk',e3,ai ok2,b3.mk']; rfl
 ·refine ⟨_,c3,b3,.make 2 _ (.inr rfl) hF,fun k=> ?_⟩
  simp only [ei]
  rw [e1,start 0,bQ.mk',e2,ai inA,Jm,ai ok1,b2.mk',e3,ai ok2,b3.mk']; rfl
 ·by_cases hf:0<(fD w.Model).length
  ·obtain ⟨f,c4,f1,f2,uW,e4⟩:=bu (R:=R) ((fD w.Model).length:Int) (by omega) (by omega) c3 hY.1
   have b4:=b3.tr uW
   obtain ⟨t,c5,ht,zj,e5⟩:=tJ (R:=R) H8 (by decide) (by decide) c4 uW.1
   have b5:=b4.tr zj
   obtain ⟨z,c6,z1,z2,KM,e6⟩:=bu (R:=R) 2 (by decide) (by decide) c5 zj.1
   have b6:=b5.tr KM
   refine ⟨_,c6,b6,.write ((fD w.Model).getD f.toNat eS) z t (.inl (aY eS (by omega))) (by omega) ht,fun k=> ?_⟩
   simp only [ei]
   rw [e1,start 0,bQ.mk',e2,ai inA,Jm,ai ok1,b2.mk',e3,ai ok2,b3.mk']
   simp only [show ((3:Int)==1)=false from rfl,show ((3:Int)==2)=false from rfl,show ((3:Int)==3)=true from rfl,show ((3:Int)==5)=false from rfl,zF,zE]
   rw [decide_eq_true (show (0:Int)<((fD w.Model).length:Int) by omega),bw,e4,ai (by simp only [bc,zB,zD]; omega),b4.mk']
   refine (e5 _).trans ?_
   rw [b5.mk',e6,b6.mk']
  ·obtain ⟨t,c5,ht,zj,e5⟩:=tJ (R:=R) H8 (by decide) (by decide) c3 hY.1
   have b5:=b3.tr zj
   obtain ⟨z,c6,z1,z2,KM,e6⟩:=bu (R:=R) 2 (by decide) (by decide) c5 zj.1
   have b6:=b5.tr KM
   refine ⟨_,c6,b6,.write (S [47,97]) z t (.inr rfl) (by omega) ht,fun k=> ?_⟩
   simp only [ei]
   rw [e1,start 0,bQ.mk',e2,ai inA,Jm,ai ok1,b2.mk',e3,ai ok2,b3.mk']
   simp only [show ((3:Int)==1)=false from rfl,show ((3:Int)==2)=false from rfl,show ((3:Int)==3)=true from rfl,show ((3:Int)==5)=false from rfl,zF,zE]
   rw [decide_eq_false (show ¬ (0:Int)<((fD w.Model).length:Int) by omega),bh]
   refine (e5 _).trans ?_
   rw [b5.mk',e6,b6.mk']
 ·by_cases hf:0<w.Model.length
  ·have Tl:(w.Model.map (·.Path)).length=w.Model.length:=List.length_map _
   obtain ⟨f,c4,f1,f2,uW,e4⟩:=bu (R:=R) ((w.Model.map (·.Path)).length:Int) (by omega) (by omega) c3 hY.1
   have b4:=b3.tr uW
   refine ⟨_,c4,b4,.remove ((w.Model.map (·.Path)).getD f.toNat eS) (.inl (aY eS (by omega))),fun k=> ?_⟩
   simp only [ei]
   rw [e1,start 0,bQ.mk',e2,ai inA,Jm,ai ok1,b2.mk',e3,ai ok2,b3.mk']
   simp only [show ((4:Int)==1)=false from rfl,show ((4:Int)==2)=false from rfl,show ((4:Int)==3)=false from rfl,show ((4:Int)==4)=true from rfl,show ((4:Int)==5)=false from rfl,zF,zE]
   rw [decide_eq_true (show (0:Int)<((w.Model.map (·.Path)).length:Int) by omega),bw,e4,ai (by simp only [bc,zB,zD]; omega),b4.mk']
  ·refine ⟨_,c3,b3,.remove (S [47,98]) (.inr rfl),fun k=> ?_⟩
   simp only [ei]
   rw [e1,start 0,bQ.mk',e2,ai inA,Jm,ai ok1,b2.mk',e3,ai ok2,b3.mk']
   simp only [show ((4:Int)==1)=false from rfl,show ((4:Int)==2)=false from rfl,show ((4:Int)==3)=false from rfl,show ((4:Int)==4)=true from rfl,show ((4:Int)==5)=false from rfl,zF,zE]
   rw [decide_eq_false (show ¬ (0:Int)<((w.Model.map (·.Path)).length:Int) by rw [List.length_map]; omega),bh]
 ·by_cases hf:0<(fD w.Model).length
  ·obtain ⟨f,c4,f1,f2,uW,e4⟩:=bu (R:=R) ((fD w.Model).length:Int) (by omega) (by omega) c3 hY.1
   have b4:=b3.tr uW
   refine ⟨_,c4,b4,.move ((fD w.Model).getD f.toNat eS) _ (.inl (aY eS (by omega))) hF,fun k=> ?_⟩
   simp only [ei]
   rw [e1,start 0,bQ.mk',e2,ai inA,Jm,ai ok1,b2.mk',e3,ai ok2,b3.mk']
   simp only [show ((5:Int)==1)=false from rfl,show ((5:Int)==2)=false from rfl,show ((5:Int)==3)=false from rfl,show ((5:Int)==5)=true from rfl,zF,zE]
   rw [decide_eq_true (show (0:Int)<((fD w.Model).length:Int) by omega),bw,e4,ai (by simp only [bc,zB,zD]; omega),b4.mk']
  ·refine ⟨_,c3,b3,.move (S [47,97]) _ (.inr rfl) hF,fun k=> ?_⟩
   simp only [ei]
   rw [e1,start 0,bQ.mk',e2,ai inA,Jm,ai ok1,b2.mk',e3,ai ok2,b3.mk']
   simp only [show ((5:Int)==1)=false from rfl,show ((5:Int)==2)=false from rfl,show ((5:Int)==3)=false from rfl,show ((5:Int)==5)=true from rfl,zF,zE]
   rw [decide_eq_false (show ¬ (0:Int)<((fD w.Model).length:Int) by omega),bh]
 ·obtain ⟨u,c4,u1,u2,uW,e4⟩:=bu (R:=R) 21 (by decide) (by decide) c3 hY.1
  have b4:=b3.tr uW
  obtain ⟨dl,d1,d2,d3⟩:=Oc (R:=R) hn w.Fs.Mem.ak hy
  obtain ⟨o,c5,zj,e5⟩:=ee (R:=R) 6 (by decide) (by decide) c4 uW.1
  have b5:=b4.tr zj
  by_cases hz:0<dl.length
  ·cases o with
   | false =>
    obtain ⟨f,c6,f1,f2,KM,e6⟩:=bu (R:=R) (dl.length:Int) (by omega) (by omega) c5 zj.1
    have b6:=b5.tr KM
    have hm:=d2 _ (aY 0 (show f.toNat<dl.length by omega))
    refine ⟨_,c6,b6,.back (dl.getD f.toNat 0) hm.1 hm.2,fun k=> ?_⟩
    simp only [ei]
    rw [e1,start 0,bQ.mk',e2,ai inA,Jm,ai ok1,b2.mk',e3,ai ok2,b3.mk']
    simp only [show ((6:Int)==1)=false from rfl,show ((6:Int)==2)=false from rfl,show ((6:Int)==3)=false from rfl,show ((6:Int)==4)=false from rfl,show ((6:Int)==5)=false from rfl,show ((6:Int)==6)=true from rfl,zF,zE]
    rw [e4,d3,b4.mk',e5,decide_eq_true (show (0:Int)<(dl.length:Int) by omega)]
    simp only [zE,zN,Bool.and_self]
    rw [b5.mk',e6,ai (by simp only [bc,zB,zD]; omega),b6.mk']
   | true =>
    refine ⟨_,c5,b5,.back u u1 (by omega),fun k=> ?_⟩
    simp only [ei]
    rw [e1,start 0,bQ.mk',e2,ai inA,Jm,ai ok1,b2.mk',e3,ai ok2,b3.mk']
    simp only [show ((6:Int)==1)=false from rfl,show ((6:Int)==2)=false from rfl,show ((6:Int)==3)=false from rfl,show ((6:Int)==4)=false from rfl,show ((6:Int)==5)=false from rfl,show ((6:Int)==6)=true from rfl,zF,zE]
    rw [e4,d3,b4.mk',e5,decide_eq_true (show (0:Int)<(dl.length:Int) by omega)]
    simp only [zE,zM,Bool.and_false,zF]
    rw [b5.mk']
  ·refine ⟨_,c4,b4,.back u u1 (by omega),fun k=> ?_⟩
   simp only [ei]
   rw [e1,start 0,bQ.mk',e2,ai inA,Jm,ai ok1,b2.mk',e3,ai ok2,b3.mk']
   simp only [show ((6:Int)==1)=false from rfl,show ((6:Int)==2)=false from rfl,show ((6:Int)==3)=false from rfl,show ((6:Int)==4)=false from rfl,show ((6:Int)==5)=false from rfl,show ((6:Int)==6)=true from rfl,zF,zE]
   rw [e4,d3,b4.mk',e5,decide_eq_false (show ¬ (0:Int)<(dl.length:Int) by omega)]
   simp only [zF,Bool.false_and]
   rw [b4.mk']
 ·refine ⟨_,c3,b3,.flush,fun k=> ?_⟩
  simp only [ei]
  rw [e1,start 0,bQ.mk',e2,ai inA,Jm,ai ok1,b2.mk',e3,ai ok2,b3.mk']; rfl
def SP (k:Nat) (p:ByteArray):Prop:=∃ l:List ByteArray,p=eX l/\l.length<=k/\∀ y∈l,y∈pM
theorem xL {x:ByteArray} (h:x∈pM):bN x=true:=by
 simp only [pM,zI,List.not_mem_nil,or_false] at h
 rcases h with rfl | rfl | rfl | rfl | rfl<;>decide
theorem SP.size {k:Nat} {p:ByteArray} (h:SP k p):p.size<=3*k:=by
 obtain ⟨l,rfl,hl,hn⟩:=h
 have:∀ (l:List ByteArray) (a:ByteArray),(∀ y∈l,y∈pM)->(l.foldl (fun s x=>(s++S [47])++x) a).size<=a.size+3*l.length:=by
  intro l
  induction l with
  | nil=>intro a _; simp
  | cons x l ih =>
   intro a h
   have h1:=ti (h x zO)
   have h2:=ih ((a++S [47])++x) fun y hy=>h y (zJ _ hy)
   have h3:(S [47]).size=1:=rfl
   rw [List.foldl_cons,zR]
   rw [ByteArray.size_append,ByteArray.size_append,h3] at h2
   omega
 have:=this l eS hn
 rw [JM] at this
 show (eX l).size<=_
 simp only [eX]; omega
theorem SP.snoc {k:Nat} {p x:ByteArray} (h:SP k p) (hx:x∈pM):SP (k+1) ((p++S [47])++x):=by
 obtain ⟨l,rfl,b,c⟩:=h
 refine ⟨l++[x],by simp only [eX,List.foldl_append,List.foldl_cons,List.foldl_nil],by simp; omega,fun y hy=> ?_⟩
 rcases zH.1 hy with hy | hy
 ·exact c y hy
 ·rw [zS] at hy; subst hy; exact hx
theorem A6 {l:List ByteArray} (h:∀ y∈l,bN y=true) (h4:4<l.length):(aN (eX l)).2=false:=by
 match l,h4 with
 | x::xs,h4 =>
  have hx:=h x zO
  have hb:(eX (x::xs)).data.toList=47::(x.data.toList++uU xs):=oh _
  have cR:∃ c t,x.data.toList=c::t:=by
   have:=(eW hx).1
   cases hd:x.data.toList with
   | nil=>rw [size_eq,hd] at this; simp at this
   | cons c t=>exact ⟨c,t,rfl⟩
  obtain ⟨c,t,de⟩:=cR
  have hs:od [] (x.data.toList++uU xs)=x::xs:=by
   rw [wI _ _ _ (qx hx),List.nil_append,xC xs _ fun z hz=>h z (zJ _ hz)]
   rfl
  simp only [aN,hb,beq_self_eq_true,zE]
  rw [de,List.cons_append] at hs ⊢
  simp only [hs]
  rw [show decide ((x::xs).length<=4)=false by simp only [decide_eq_false_iff_not]; omega,Bool.and_false]; rfl
theorem SP.cut {k:Nat} {p:ByteArray} (h:SP k p) (hs:(aN p).2=true):SP 4 p:=by
 obtain ⟨l,rfl,b,c⟩:=h
 refine ⟨l,rfl,Decidable.byContradiction fun hn=> ?_,c⟩
 rw [A6 (fun y hy=>xL (c y hy)) (by omega)] at hs; cases hs
def cD (m:Mem) (e:Event):Mem×Int×Bool :=
 bif e.Kind==1 then ((eT m e.Path 1).1,(eT m e.Path 1).2,true) else
 bif e.Kind==2 then ((eT m e.Path 2).1,(eT m e.Path 2).2,true) else
 bif e.Kind==3 then ((jD m e.Path e.At e.Text).1,(jD m e.Path e.At e.Text).2,true) else
 bif e.Kind==4 then ((ig m e.Path).1,(ig m e.Path).2,true) else
 bif e.Kind==5 then ((ju m e.Path e.To).1,(ju m e.Path e.To).2,true) else (m,0,false)
theorem IZ {n:Nat} (hn:bn<=n) (h:j9 m) (e:Event) (hp:e.Path.size<=cL) (hq:e.To.size<=cL) (k:Mem->Int->Bool->Option R):qb n m e k=k (cD m e).1 (cD m e).2.1 (cD m e).2.2:=by
 have hm:=h.sz
 simp only [qb,cD]
 rw [(yE hn m hm _ hp _ _).1,(yE hn m hm _ hp _ _).1,(EH hn m hm _ hp _ _ _).1,(CD hn m hm _ hp _).1,GZ hn h _ _ hp hq]
 cases e.Kind==1<;>cases e.Kind==2<;>cases e.Kind==3<;>cases e.Kind==4<;>cases e.Kind==5<;>rfl
theorem j9.call (h:j9 m) (e:Event):j9 (cD m e).1:=by
 simp only [cD]
 have h1:=h.make e.Path 1
 have h2:=h.make e.Path 2
 have h3:=h.text e.Path e.At e.Text
 have h4:=h.remove e.Path
 have h5:=h.move e.Path e.To
 cases e.Kind==1 with
 | true=>exact h1
 | false =>
 cases e.Kind==2 with
 | true=>exact h2
 | false =>
 cases e.Kind==3 with
 | true=>exact h3
 | false =>
 cases e.Kind==4 with
 | true=>exact h4
 | false =>
 cases e.Kind==5 with
 | true=>exact h5
 | false=>exact h
def zg (e:Event) (w:World):World :=
 ⟨bif e.Kind==6 then (dq ⟨(cD w.Fs.Mem e).1,w.Fs.Device⟩ e.At).1 else bif e.Kind==7 then flush ⟨(cD w.Fs.Mem e).1,w.Fs.Device⟩ else ⟨(cD w.Fs.Mem e).1,w.Fs.Device⟩,
  bif (cD w.Fs.Mem e).2.2&&((cD w.Fs.Mem e).2.1==0) then dh w.Model e else w.Model,
  w.jl++[(cD w.Fs.Mem e).2.1],
  bif e.Kind==7 then w.Model else w.Kept⟩
theorem My {n:Nat} (hn:bn<=n) (e:Event) (h8:(e.Kind==8)=false) (m0:Mem) (d0:Device) (md:List Node) (cs:List Int) (kp:List Node) (h:pI ⟨m0,d0⟩) (hl:md.length<=1048576) (hp:∀ x∈md,x.Path.size<=1000) (hc:cs.length<=1000000) (he:e.Path.size<=cL) (ht:e.To.size<=cL) (k:World->Option R) :
  tS n e ⟨⟨m0,d0⟩,md,cs,kp⟩ k=k ⟨bif e.Kind==6 then (dq ⟨(cD m0 e).1,d0⟩ e.At).1 else bif e.Kind==7 then flush ⟨(cD m0 e).1,d0⟩ else ⟨(cD m0 e).1,d0⟩,bif (cD m0 e).2.2&&((cD m0 e).2.1==0) then dh md e else md,cs++[(cD m0 e).2.1],bif e.Kind==7 then md else kp⟩:=by
 have ok1:bg cs=true:=cn (by omega)
 have ok2:∀ c,bg (cs++[c])=true:=fun c=>cn (by rw [zK,zL]; omega)
 have okm:bg md=true:=cn (by omega)
 have hI:pI ⟨(cD m0 e).1,d0⟩:=⟨h.m.call e,h.d⟩
 have hwb:∀ k:Fs->Bool->Option R,g8 n ⟨(cD m0 e).1,d0⟩ e.At k=k (dq ⟨(cD m0 e).1,d0⟩ e.At).1 (dq ⟨(cD m0 e).1,d0⟩ e.At).2:=fun k=>xe hn _ hI.m.sz (Ev hI.d) _ k
 have zX:∀ k:Fs->Option R,oZ n ⟨(cD m0 e).1,d0⟩ k=k (flush ⟨(cD m0 e).1,d0⟩):=fun k=>O3 hn _ hI k
 have hm:∀ k:List Node->Option R,lx n md e k=k (dh md e):=fun k=>CL hn _ hl (fun x hx=>Nat.le_trans (hp x hx) (by decide)) e he k
 have Nd:∀ k:Mem->Int->Bool->Option R,qb n m0 e k=k (cD m0 e).1 (cD m0 e).2.1 (cD m0 e).2.2:=fun k=>IZ hn h.m e he ht k
 have K5:(cD m0 e).2.2=false->(cD m0 e).1=m0:=fun hf=>by
  revert hf
  simp only [cD]
  cases e.Kind==1<;>cases e.Kind==2<;>cases e.Kind==3<;>cases e.Kind==4<;>cases e.Kind==5<;>first | (intro hf; cases hf; done) | (intro _; rfl)
 have ab7:(e.Kind==6)=true->(e.Kind==7)=false:=fun a=>by rw [beq_iff_eq] at a; rw [a]; rfl
 have Qg:(cD m0 e).2.2=true->(e.Kind==7)=false:=fun hf=>by
  cases h7:e.Kind==7 with
  | false=>rfl
  | true =>
   rw [beq_iff_eq] at h7
   simp only [cD,h7] at hf
   cases hf
 simp only [tS,List.nil_append]
 rw [Nd]
 clear Nd hI h hp he ht
 generalize cD m0 e=c at *
 obtain ⟨c1,c2,c3⟩:=c
 simp only at K5 Qg hwb zX ⊢
 generalize dh md e=ma at *
 cases c3 with
 | true =>
  generalize dq ⟨c1,d0⟩ e.At=wb at *
  generalize flush ⟨c1,d0⟩=fl at *
  simp only [ok1,ok2,bf,h8,zE,zF,hwb,zX,hm,okm,Qg rfl,Bool.true_and]
  cases c2==0<;>cases e.Kind==6<;>rfl
 | false =>
  have bQ:=K5 rfl
  subst bQ
  generalize dq ⟨c1,d0⟩ e.At=wb at *
  generalize flush ⟨c1,d0⟩=fl at *
  simp only [ok1,ok2,bf,h8,zE,zF,hwb,zX,hm,okm,Bool.false_and]
  cases h6:e.Kind==6 with
  | true=>rw [ab7 h6]; simp only [zE,zF]
  | false =>
   simp only [zF]
   cases e.Kind==7 with
   | true=>simp only [zE]
   | false=>simp only [zF]
theorem Nx {n:Nat} (hn:bn<=n) (e:Event) (h8:(e.Kind==8)=false) (w:World) (h:pI w.Fs) (hl:w.Model.length<=1048576) (hp:∀ x∈w.Model,x.Path.size<=1000) (hc:w.jl.length<=1000000) (he:e.Path.size<=cL) (ht:e.To.size<=cL) (k:World->Option R) :
  tS n e w k=k (zg e w):=My hn e h8 w.Fs.Mem w.Fs.Device w.Model w.jl w.Kept h hl hp hc he ht k
structure A2 (t:Nat) (w:World):Prop where
 fs:pI w.Fs
 ml:w.Model.length<=t
 mp:∀ x∈w.Model,SP 4 x.Path
 cl:w.jl.length<=t
theorem lh.kind {l:List Node} {e:Event} (h:lh l e):(e.Kind==8)=false:=by
 cases h with
 | make k p hk _=>rcases hk with rfl | rfl<;>rfl
 | write=>rfl
 | remove=>rfl
 | move=>rfl
 | back=>rfl
 | flush=>rfl
theorem vf.sp {l:List Node} (hl:∀ x∈l,SP 4 x.Path) {p:ByteArray} (h:vf l p):SP 5 p:=by
 obtain ⟨d,hd,x,hx,rfl⟩:=h
 have Ca:SP 4 d:=by
  simp only [ll,zI,List.mem_map,List.mem_filter] at hd
  rcases hd with rfl | ⟨z,hz,rfl⟩
  ·exact ⟨[],rfl,by simp,fun y hy=>(List.not_mem_nil hy).elim⟩
  ·exact hl z hz.1
 exact Ca.snoc hx
theorem vf.size {l:List Node} (hl:∀ x∈l,x.Path.size<=1000) {p:ByteArray} (h:vf l p):p.size<=1003:=by
 obtain ⟨d,hd,x,hx,rfl⟩:=h
 have Ca:d.size<=1000:=by
  simp only [ll,zI,List.mem_map,List.mem_filter] at hd
  rcases hd with rfl | ⟨z,hz,rfl⟩
  ·decide
  ·exact hl z hz.1
 have h1:=ti hx
 have h3:(S [47]).size=1:=rfl
 rw [ByteArray.size_append,ByteArray.size_append,h3]; omega
theorem Mz {l:List Node} {p:ByteArray} (h:p∈fD l):∃ x∈l,x.Path=p:=by
 simp only [fD,List.mem_map,List.mem_filter] at h
 obtain ⟨x,hx,rfl⟩:=h
 exact ⟨x,hx.1,rfl⟩
theorem lh.size {l:List Node} (hl:∀ x∈l,x.Path.size<=1000) {e:Event} (h:lh l e):e.Path.size<=1003/\e.To.size<=1003:=by
 have hf:∀ {p},(p∈fD l\/p=S [47,97])->p.size<=1003:=fun h=>by
  rcases h with h | rfl
  ·obtain ⟨x,hx,rfl⟩:=Mz h
   have:=hl x hx; omega
  ·decide
 have e0:eS.size<=1003:=by decide
 cases h with
 | make k p hk hp=>exact ⟨hp.size hl,e0⟩
 | write p a t hp=>exact ⟨hf hp,e0⟩
 | remove p hp =>
  refine ⟨?_,e0⟩
  rcases hp with hp | rfl
  ·obtain ⟨x,hx,rfl⟩:=List.mem_map.1 hp
   have:=hl x hx; show x.Path.size<=1003; omega
  ·show (S [47,98]).size<=1003; decide
 | move p q hp hq=>exact ⟨hf hp,hq.size hl⟩
 | back=>exact ⟨e0,e0⟩
 | flush=>exact ⟨e0,e0⟩
theorem Ox (m:Mem) (p t:ByteArray) (a:Int) (x:ByteArray):cD m ⟨1,p,t,a,x⟩=((eT m p 1).1,(eT m p 1).2,true):=rfl
theorem Om (m:Mem) (p t:ByteArray) (a:Int) (x:ByteArray):cD m ⟨2,p,t,a,x⟩=((eT m p 2).1,(eT m p 2).2,true):=rfl
theorem Pa (m:Mem) (p t:ByteArray) (a:Int) (x:ByteArray):cD m ⟨5,p,t,a,x⟩=((ju m p t).1,(ju m p t).2,true):=rfl
theorem Pp (l:List Node) {k:Int} (hk:k=1\/k=2) (p t:ByteArray) (a:Int) (x:ByteArray):dh l ⟨k,p,t,a,x⟩=uN (l++[⟨p,k==2,eS,eS⟩]):=by
 have:((k==1)||(k==2))=true:=by simpa using hk
 simp only [dh,this,zE]
theorem RR (l:List Node) (p t:ByteArray) (a:Int) (x:ByteArray):dh l ⟨3,p,t,a,x⟩=l.map (vx ⟨3,p,t,a,x⟩):=by
 simp only [dh,show ((3:Int)==1)=false from rfl,show ((3:Int)==2)=false from rfl,show ((3:Int)==3)=true from rfl,Bool.or_false,zE,zF]
theorem R7 (l:List Node) (p t:ByteArray) (a:Int) (x:ByteArray):dh l ⟨4,p,t,a,x⟩=l.filter (fun x=> !below x.Path p):=by
 simp only [dh,show ((4:Int)==1)=false from rfl,show ((4:Int)==2)=false from rfl,show ((4:Int)==3)=false from rfl,show ((4:Int)==4)=true from rfl,Bool.or_false,zE,zF]
theorem Q8 (l:List Node) (p t:ByteArray) (a:Int) (x:ByteArray):dh l ⟨5,p,t,a,x⟩=uN (l.map (BV ⟨5,p,t,a,x⟩)):=by
 simp only [dh,show ((5:Int)==1)=false from rfl,show ((5:Int)==2)=false from rfl,show ((5:Int)==3)=false from rfl,show ((5:Int)==4)=false from rfl,show ((5:Int)==5)=true from rfl,Bool.or_false,zE,zF]
theorem JW (l:List Node) (k:Int) (hk:k=6\/k=7) (p t:ByteArray) (a:Int) (x:ByteArray):dh l ⟨k,p,t,a,x⟩=l:=by
 rcases hk with rfl | rfl<;>simp only [dh,show ((6:Int)==1)=false from rfl,show ((6:Int)==2)=false from rfl,show ((6:Int)==3)=false from rfl,show ((6:Int)==4)=false from rfl,show ((6:Int)==5)=false from rfl,show ((7:Int)==1)=false from rfl,show ((7:Int)==2)=false from rfl,show ((7:Int)==3)=false from rfl,show ((7:Int)==4)=false from rfl,show ((7:Int)==5)=false from rfl,Bool.or_false,zE,zF]
theorem Kp {p:ByteArray} {k:Int} (h:(eT m p k).2=0):(aN p).2=true:=by
 have h2:(ao p).2.2=true:=by
  cases hs:(ao p).2.2 with
  | true=>rfl
  | false =>
   simp only [eT,hs,zN,Bool.or_true,Bool.true_or,zE] at h
   exact absurd h (by decide)
 obtain ⟨l,x,e,_⟩:=gW h2
 rw [e]
theorem Sp {p q:ByteArray} (h:(ju m p q).2=0):(aN q).2=true:=by
 have h2:(ao q).2.2=true:=by
  cases hs:(ao q).2.2 with
  | true=>rfl
  | false =>
   simp only [ju,hs,zN,Bool.or_true,zE] at h
   exact absurd h (by decide)
 obtain ⟨l,x,e,_⟩:=gW h2
 rw [e]
theorem pI.flush {f:Fs} (h:pI f):pI (Soft.flush f):=by unfold Soft.flush; exact pI.qw 400 h
theorem A2.step {t:Nat} {w:World} (h:A2 t w) {e:Event} (he:lh w.Model e):A2 (t+1) (zg e w):=by
 have hI:pI ⟨(cD w.Fs.Mem e).1,w.Fs.Device⟩:=⟨h.fs.m.call e,h.fs.d⟩
 have Nd:(zg e w).jl.length<=t+1:=by
  simp only [zg]
  rw [zK,zL]; have:=h.cl; omega
 have QG:pI (zg e w).Fs:=by
  simp only [zg]
  cases e.Kind==6 with
  | true=>rw [zE]; exact hI.back e.At
  | false =>
   rw [zF]
   cases e.Kind==7 with
   | true=>rw [zE]; exact hI.flush
   | false=>rw [zF]; exact hI
 have JC:=h.ml
 have hM:(zg e w).Model.length<=t+1/\∀ x∈(zg e w).Model,SP 4 x.Path:=by
  simp only [zg]
  cases hc:(cD w.Fs.Mem e).2.2&&((cD w.Fs.Mem e).2.1==0) with
  | false=>exact ⟨by simp only [zF]; omega,h.mp⟩
  | true =>
   simp only [zB,beq_iff_eq] at hc
   simp only [zE]
   have hc:=hc.2
   cases he with
   | make k p hk hp =>
    have hm:=Pp w.Model hk p eS 0 eS
    have hs:(aN p).2=true:=by
     rcases hk with rfl | rfl
     ·rw [Ox] at hc; exact Kp hc
     ·rw [Om] at hc; exact Kp hc
    rw [hm]
    refine ⟨by rw [DU,zK,zL]; omega,fun x hx=> ?_⟩
    rw [C5,zH,zS] at hx
    rcases hx with hx | rfl
    ·exact h.mp x hx
    ·exact (hp.sp h.mp).cut hs
   | write p a t hp ha ht =>
    have hm:=RR w.Model p eS a t
    rw [hm]
    refine ⟨by rw [List.length_map]; omega,fun x hx=> ?_⟩
    obtain ⟨y,hy,rfl⟩:=List.mem_map.1 hx
    have:(vx ⟨3,p,eS,a,t⟩ y).Path=y.Path:=by
     simp only [vx]
     cases (!(y.Path==p))||y.cp with
     | true=>rfl
     | false=>cases a==0<;>rfl
    rw [this]; exact h.mp y hy
   | remove p hp =>
    have hm:=R7 w.Model p eS 0 eS
    rw [hm]
    exact ⟨Nat.le_trans (List.length_filter_le _ _) (by omega),fun x hx=>h.mp x (List.mem_filter.1 hx).1⟩
   | move p q hp hq =>
    have hm:=Q8 w.Model p q 0 eS
    rw [hm]
    refine ⟨by rw [DU,List.length_map]; omega,fun x hx=> ?_⟩
    rw [C5] at hx
    obtain ⟨y,hy,rfl⟩:=List.mem_map.1 hx
    simp only [BV]
    cases (y.Path==p)&&(!y.cp) with
    | true=>rw [Pa] at hc; exact (hq.sp h.mp).cut (Sp hc)
    | false=>exact h.mp y hy
   | back u=>rw [JW _ _ (.inl rfl)]; exact ⟨by omega,h.mp⟩
   | flush=>rw [JW _ _ (.inr rfl)]; exact ⟨by omega,h.mp⟩
 exact ⟨QG,hM.1,hM.2,Nd⟩
inductive WR:World->Prop
 | new:WR ⟨FQ,[],[],[]⟩
 | step {w:World} {e:Event}:WR w->lh w.Model e->WR (zg e w)
theorem A2.new:A2 0 ⟨FQ,[],[],[]⟩:=⟨pI.new,by simp,fun x hx=>(List.not_mem_nil hx).elim,by simp⟩
theorem SP.le {p:ByteArray} (h:SP 4 p):p.size<=1000:=by have:=h.size; omega
theorem L5 {n:Nat} (hn:bn<=n) {t:Nat} (ht:t<=1000000) (w:World) (h:A2 t w) (c:dP) (hc:uq c):∃ e c',Cn c c'/\lh w.Model e/\(∀ k:Event->dP->Option R,ei n w c k=k e c')/\∀ k:World->Option R,tS n e w k=k (zg e w):=by
 have JC:=h.ml
 have Nd:=h.cl
 have hp:∀ x∈w.Model,x.Path.size<=1000:=fun x hx=>(h.mp x hx).le
 obtain ⟨e,c',h1,h2,h3⟩:=Mp (R:=R) hn w (by omega) hp h.fs.m.g.R.dy c hc
 obtain ⟨s1,s2⟩:=h2.size hp
 exact ⟨e,c',h1,h2,h3,fun k=>Nx hn e h2.kind w h.fs (by omega) hp (by omega) (Nat.le_trans s1 (by decide)) (Nat.le_trans s2 (by decide)) k⟩
theorem JY {n:Nat} (hn:bn<=n) (b:List UInt8):∀ (r i:Nat) (w:World) (c:dP),i+r=28->A2 i w->WR w->uq c->c.b=b->∃ w' c',Cn c c'/\A2 28 w'/\WR w'/\∀ (m:Nat) (q:World->dP->Option R),r<m ->
   lR n b (fun i xh v eR dE fV jc lK gY pV yW pT dD=>q ⟨⟨⟨⟨⟨eR,dE⟩,fV,jc⟩,lK,gY,v⟩,⟨pV⟩⟩,yW,pT,dD⟩ ⟨b,i,xh⟩) m (i:Int) c.i c.h w.Fs.Mem.Next w.Fs.Mem.aa.aq.ab w.Fs.Mem.aa.aq.bD w.Fs.Mem.aa.ad w.Fs.Mem.aa.ab w.Fs.Mem.ak w.Fs.Mem.ae w.Fs.Device.cq w.Model w.jl w.Kept=q w' c'
 | r,i,w,c,h1,h2,h3,h4,h5=>by
  obtain ⟨x,c1,x1,x2,bQ,e1⟩:=bu (R:=R) 24 (by decide) (by decide) c h4
  have hcb:(⟨b,c.i,c.h⟩:dP)=c:=by rw [← h5]
  have YB:(⟨b,c1.i,c1.h⟩:dP)=c1:=by rw [← h5]; exact bQ.mk'
  by_cases fM:(i:Int)<4+x
  ·match r,h1 with
   | 0,h1=>omega
   | r+1,h1 =>
    obtain ⟨e,c2,eL,he,e2,e3⟩:=L5 (R:=R) hn (t:=i) (by omega) w h2 c1 bQ.1
    obtain ⟨w',c',q1,q2,q3,q4⟩:=JY hn b r (i+1) (zg e w) c2 (by omega) (h2.step he) (h3.step he) eL.1 (eL.2.trans (bQ.2.trans h5))
    refine ⟨w',c',(bQ.tr eL).tr q1,q2,q3,fun m q hm=> ?_⟩
    match m,hm with
    | m+1,hm =>
     simp only [lR]
     rw [hcb,e1,YB,cy (n:=4+x) (by omega) (by omega),decide_eq_true fM,bw]
     refine (e2 _).trans ?_
     refine (e3 _).trans ?_
     rw [bH (by omega)]
     exact q4 m q (by omega)
  ·refine ⟨w,c1,bQ,⟨h2.fs,Nat.le_trans h2.ml (by omega),h2.mp,Nat.le_trans h2.cl (by omega)⟩,h3,fun m q hm=> ?_⟩
   match m,hm with
   | m+1,hm =>
    simp only [lR]
    rw [hcb,e1,cy (n:=4+x) (by omega) (by omega),decide_eq_false fM,bh]
    show q w ⟨b,c1.i,c1.h⟩=_
    rw [YB]
termination_by r=>r
theorem JZ {n:Nat} (hn:bn<=n) (c:dP) (hc:uq c):∃ w c',Cn c c'/\A2 28 w/\WR w/\∀ k:Fs->dP->Option R,v9 n c k=k w.Fs c':=by
 obtain ⟨w',c',q1,q2,q3,q4⟩:=JY (R:=R) hn c.b 28 0 ⟨FQ,[],[],[]⟩ c rfl A2.new WR.new hc rfl
 refine ⟨w',c',q1,q2,q3,fun k=> ?_⟩
 simp only [v9]
 rw [Pw hn]
 exact q4 n (fun w c=>k w.Fs c) (aP hn (by omega))
theorem ir {σ:Type} {L:(Int->Int->σ->Option R)->Nat->Int->Int->Int->σ->Option R} {b:List UInt8} {len B:Nat} {I:Nat->σ->Prop} (hl:len<=4611686018427387904)
  (hs:∀ i (c:dP) s,i<len->uq c->c.b=b->I i s->∃ c' s',Cn c c'/\I (i+1) s'/\∀ q m,B<m->L q (m+1) (i:Int) c.i c.h s=L q m (aC ((i:Int)+1)) c'.i c'.h s')
  (hq:∀ q m (c:dP) s,I len s->L q (m+1) (len:Int) c.i c.h s=q c.i c.h s) :
  ∀ (k i:Nat) (c:dP) (s:σ),i+k=len->uq c->c.b=b->I i s->∃ c' s',Cn c c'/\I len s'/\∀ q m,k+B<m->L q m (i:Int) c.i c.h s=q c'.i c'.h s'
 | 0,i,c,s,h1,hc,hb,h3=>by
  have:i=len:=by omega
  subst this
  refine ⟨c,s,⟨hc,rfl⟩,h3,fun q m hm=> ?_⟩
  match m,hm with
  | m+1,_=>exact hq q m c s h3
 | k+1,i,c,s,h1,hc,hb,h3=>by
  obtain ⟨c1,s1,bQ,zh,e1⟩:=hs i c s (by omega) hc hb h3
  obtain ⟨c2,s2,eL,VL,e2⟩:=ir hl hs hq k (i+1) c1 s1 (by omega) bQ.1 (bQ.2.trans hb) zh
  refine ⟨c2,s2,bQ.tr eL,VL,fun q m hm=> ?_⟩
  match m,hm with
  | m+1,hm=>rw [e1 q m (by omega),bH (by omega)]; exact e2 q m (by omega)
theorem Cn.Y0 {c c':dP} {b:List UInt8} (h:Cn c c') (hb:c.b=b):(⟨b,c'.i,c'.h⟩:dP)=c':=by rw [← hb]; exact h.mk'
theorem pR {c:dP} {b:List UInt8} (hb:c.b=b):(⟨b,c.i,c.h⟩:dP)=c:=by rw [← hb]
theorem k7 {x a b:Int} (h1:a<=x) (h2:x<=b):within x a b=true:=aj.2 ⟨h1,h2⟩
theorem BG (c:dP) (hc:uq c):∃ x c',bx x=true/\Cn c c'/\∀ k:aX->dP->Option R,l6 c k=k x c':=by
 obtain ⟨r,c1,hr,bQ,e1⟩:=eN (R:=R) [0,1,2] (by decide) (by decide) c hc
 have cz:r=0\/r=1\/r=2:=by simpa using hr
 by_cases h0:r=0
 ·subst h0
  refine ⟨ba 0,c1,rfl,bQ,fun k=> ?_⟩
  simp only [l6]
  rw [e1,jv,show (!((ba 0).Kind==0))=false from rfl,bh,bQ.mk']
 ·obtain ⟨a,c2,a1,a2,eL,e2⟩:=bu (R:=R) 4 (by decide) (by decide) c1 bQ.1
  obtain ⟨p,c3,p1,p2,hY,e3⟩:=bu (R:=R) 17 (by decide) (by decide) c2 eL.1
  obtain ⟨q,c4,q1,q2,uW,e4⟩:=bu (R:=R) 17 (by decide) (by decide) c3 hY.1
  obtain ⟨z,c5,hz,zj,e5⟩:=eN (R:=R) [0,0,q] (by simp) (by show 3<=cL; decide) c4 uW.1
  have FG:0<=z/\z<=16:=by
   simp only [zI,List.not_mem_nil,or_false] at hz; omega
  have b2:=bQ.tr eL
  have b3:=b2.tr hY
  have b4:=b3.tr uW
  have b5:=b4.tr zj
  have hN:ba r=⟨r,1,[0,0]⟩:=by rcases cz with h | h | h<;>subst h<;>first | exact absurd rfl h0 | rfl
  refine ⟨⟨r,a,[p,z]⟩,c5,?_,b5,fun k=> ?_⟩
  ·have e1':(r==0)=false:=beq_eq_false_iff_ne.2 h0
   have e2':(r != 0)=true:=by simp only [bne,e1',zN]
   simp only [bx,k7 (show 0<=r by omega) (show r<=2 by omega),k7 (show 0<=a by omega) (show a<=200 by omega),k7 p1 (show p<=16 by omega),k7 FG.1 FG.2,e2',List.all_cons,List.all_nil,zR,List.length_nil]
   rfl
  ·simp only [l6]
   rw [e1,jv,hN]
   rw [show (!((⟨r,1,[0,0]⟩:aX).Kind==0))=true by simpa using h0,bw,bQ.mk',e2,b2.mk',e3,ai (by rfl),b3.mk',e4,b4.mk']
   refine (e5 _).trans ?_
   rw [ai (by rfl),b5.mk']; rfl
theorem LN {x:Int} (h1:0<=x) (h2:x<=255):kg x=true:=by simp only [kg,zB,zD]; omega
theorem Lc {n:Nat} (hn:bn<=n) (z:Nat) (hz:z<=5000) (c:dP) (hc:uq c):∃ (s:ByteArray) (c':dP),s.size=z/\Cn c c'/\∀ k:ByteArray->dP->Option R,qa n (z:Int) c k=k s c':=by
 obtain ⟨c',s,lD,hI,e⟩:=ir (R:=R) (L:=fun q=>iv (z:Int) c.b q) (b:=c.b) (len:=z) (B:=0) (I:=fun i (s:List UInt8)=>s.length=i) (by omega)
  (fun i c0 s hi h1 h2 h3=>by
   obtain ⟨x,c1,x1,x2,bQ,e1⟩:=nE (R:=R) c0 h1
   refine ⟨c1,s++[UInt8.ofNat (IntKind.u8.wrap x).toNat],bQ,by rw [zK,h3,zL],fun q m _=> ?_⟩
   simp only [iv]
   rw [show decide ((i:Int)<(z:Int))=true by rw [zD]; omega,bw,pR h2,e1,nU,Bool.true_and,bf,ai (cb (i:=i) (by omega) (by omega) (by simp))])
  (fun q m c0 s h=>by simp [iv]) z 0 c [] (by omega) hc rfl rfl
 refine ⟨yT s,c',hI,lD,fun k=> ?_⟩
 simp only [qa]
 rw [show decide ((5000:Int)<(z:Int))=false by simp; omega,bh]
 refine (e _ n (aP hn (by omega))).trans ?_
 rw [lD.mk']
theorem IV {n:Nat} (hn:bn<=n) (x:Int) (h1:0<=x) (h2:x<=5000) (c:dP) (hc:uq c):∃ (s:ByteArray) (c':dP),(s.size:Int)=x/\Cn c c'/\∀ k:ByteArray->dP->Option R,qa n x c k=k s c':=by
 obtain ⟨z,rfl⟩:=Int.eq_ofNat_of_zero_le h1
 obtain ⟨s,c',a,b,e⟩:=Lc (R:=R) hn z (by omega) c hc
 exact ⟨s,c',by omega,b,e⟩
theorem RI {n:Nat} (hn:bn<=n) (z:Nat) (hz:z<=100000) (x:Int) (h1:0<=x) (h2:x<=255):∃ s:ByteArray,s.size=z/\∀ k:ByteArray->Option R,uj n (z:Int) x k=k s:=by
 have key:∀ (r i:Nat) (a:List UInt8),i+r=z->a.length=z->∃ a':List UInt8,a'.length=z/\∀ (q:List UInt8->Option R) (m:Nat),r<m->jB (z:Int) x q m (i:Int) a=q a':=by
  intro r
  induction r with
  | zero =>
   intro i a h1 h2
   refine ⟨a,h2,fun q m hm=> ?_⟩
   match m,hm with
   | m+1,_ =>
    simp only [jB]
    rw [show decide ((i:Int)<(z:Int))=false by simp; omega,bh]
  | succ r ih =>
   intro i a HP Js
   obtain ⟨a',Fw,e⟩:=ih (i+1) (a.set i (UInt8.ofNat x.toNat)) (by omega) (List.length_set.trans Js)
   refine ⟨a',Fw,fun q m hm=> ?_⟩
   match m,hm with
   | m+1,hm =>
    simp only [jB,aJ,Js]
    rw [show decide ((i:Int)<(z:Int))=true by rw [zD]; omega,bw,show decide (i<z)=true by rw [zD]; omega,bf,ai (LN h1 h2),bH (by omega),zC]
    exact e q m (by omega)
 obtain ⟨a',Fw,e⟩:=key z 0 (List.replicate (z:Int).toNat 0) (by omega) (by simp)
 refine ⟨yT a',Fw,fun k=> ?_⟩
 simp only [uj]
 rw [ai (by
  simp only [Xm,beq_self_eq_true,Bool.true_and,zB,zD]
  have hb:(z:Int).toNat<=1099511627776:=by omega
  exact ⟨by omega,Nat.ble_eq_true_of_le hb⟩)]
 exact e _ n (aP hn (by omega))
def KB (l:List Slot):Prop:=bF ⟨true,l,eS⟩=true
theorem Ny {n:Nat} (hn:bn<=n) (b:List UInt8) (c:dP) (hc:uq c) (hb:c.b=b):∃ c' l,Cn c c'/\KB l/\∀ q:Int->Int->List Slot->Option R,dT n true eS b q n 0 c.i c.h (List.replicate 4 au)=q c'.i c'.h l:=by
 obtain ⟨c',s,lD,hI,e⟩:=ir (R:=R) (L:=fun q=>dT n true eS b q) (b:=b) (len:=4) (B:=0) (I:=fun i (s:List Slot)=>KB s/\∀ t,i<=t->s.getD t au=au) (by omega)
  (fun i c0 s hi h1 h2 h3=>by
   obtain ⟨x,c1,hx,bQ,e1⟩:=CW (R:=R) c0 h1
   obtain ⟨a,c2,a1,a2,eL,e2⟩:=bu (R:=R) 8 (by decide) (by decide) c1 bQ.1
   obtain ⟨o,c3,hY,e3⟩:=ee (R:=R) 2 (by decide) (by decide) c2 eL.1
   have xt:=(pE (b:=⟨true,s,eS⟩) rfl).1 h3.1
   have Vy:s.length=4:=xt.1
   have m0:(⟨b,c0.i,c0.h⟩:dP)=c0:=pR h2
   have m1:(⟨b,c1.i,c1.h⟩:dP)=c1:=bQ.Y0 h2
   have m2:(⟨b,c2.i,c2.h⟩:dP)=c2:=(bQ.tr eL).Y0 h2
   have pU:∀ k:Int->Option R,p7 n ⟨true,s,eS⟩ x k=_:=fun k=>DK hn ⟨true,s,eS⟩ (by show s.length<=cL; rw [Vy]; decide) x k
   have eB:∀ t,i+1<=t->s.getD t au=au:=fun t ht=>h3.2 t (by omega)
   rcases s6 (b:=⟨true,s,eS⟩) (nm:=x) (gU (xL hx)) with ⟨hs,CU⟩ | ⟨j,hs,_⟩
   ·cases o with
    | true =>
     refine ⟨c3,s.set i ⟨x,1+a⟩,(bQ.tr eL).tr hY,⟨?_,fun t ht=> ?_⟩,fun q m _=> ?_⟩
     ·exact mY (b:=⟨true,s,eS⟩) h3.1 rfl (by omega) (.inr ⟨xL hx,⟨by show 1<=1+a; omega,by show 1+a<=8; omega⟩⟩) fun _ t _=>CU t
     ·rw [cF,if_neg (by omega)]; exact eB t ht
     ·simp only [dT]
      rw [show decide ((i:Int)<4)=true by rw [zD]; omega,bw,m0,e1,m1,e2,pU,hs,m2,e3]
      rw [show decide ((-1:Int)<0)=true from rfl]
      simp only [zE,Bool.and_self,aJ,Vy]
      rw [show decide (i<4)=true by rw [zD]; omega,bf,cy (n:=1+a) (by omega) (by omega),zC]
    | false =>
     refine ⟨c3,s,(bQ.tr eL).tr hY,⟨h3.1,eB⟩,fun q m _=> ?_⟩
     simp only [dT]
     rw [show decide ((i:Int)<4)=true by rw [zD]; omega,bw,m0,e1,m1,e2,pU,hs,m2,e3]
     rw [show decide ((-1:Int)<0)=true from rfl]
     simp only [zE,zF,Bool.and_false]
   ·refine ⟨c2,s,bQ.tr eL,⟨h3.1,eB⟩,fun q m _=> ?_⟩
    simp only [dT]
    rw [show decide ((i:Int)<4)=true by rw [zD]; omega,bw,m0,e1,m1,e2,pU,hs,m2,e3]
    rw [show decide (((j:Nat):Int)<0)=false by simp]
    simp only [zF,Bool.false_and])
  (fun q m c0 s h=>by simp [dT]) 4 0 c (List.replicate 4 au) (by omega) hc hb ⟨by show bF _=true; decide,fun t _=>by
   match t with
   | 0=>rfl
   | 1=>rfl
   | 2=>rfl
   | 3=>rfl
   | t+4=>rfl⟩
 exact ⟨c',s,lD,hI.1,fun q=>e q n (aP hn (by omega))⟩
theorem Ay {n:Nat} (hn:bn<=n) (c:dP) (hc:uq c):∃ x c',bF x=true/\Cn c c'/\∀ k:Block->dP->Option R,lL n c k=k x c':=by
 obtain ⟨o,c1,bQ,e1⟩:=ee (R:=R) 2 (by decide) (by decide) c hc
 cases o with
 | true =>
  obtain ⟨z,c2,z1,z2,eL,e2⟩:=bu (R:=R) 17 (by decide) (by decide) c1 bQ.1
  obtain ⟨s,c3,hs,hY,e3⟩:=IV (R:=R) hn z z1 (by omega) c2 eL.1
  have b2:=bQ.tr eL
  have b3:=b2.tr hY
  refine ⟨⟨false,[],s⟩,c3,?_,b3,fun k=> ?_⟩
  ·simp only [bF,zF]
   have:s.size<=16:=by omega
   simp [this]
  ·simp only [lL]
   rw [e1,bw,bQ.mk',e2,b2.mk',e3,b3.mk']
 | false =>
  obtain ⟨c2,l,eL,hl,e2⟩:=Ny (R:=R) hn c.b c1 bQ.1 bQ.2
  have b2:=bQ.tr eL
  refine ⟨⟨true,l,eS⟩,c2,hl,b2,fun k=> ?_⟩
  simp only [lL]
  rw [e1,bh,xG]
  refine (e2 _).trans ?_
  rw [b2.mk']
theorem Rq {n:Nat} (hn:bn<=n) (b:List UInt8) (c:dP) (hc:uq c) (hb:c.b=b) (l:List aX) (hl:l.length=8) (hi:∀ x∈l,bx x=true):∃ c' l',Cn c c'/\(l'.length=8/\∀ x∈l',bx x=true)/\∀ q:Int->Int->List aX->Option R,ft b q n 0 c.i c.h l=q c'.i c'.h l':=by
 obtain ⟨c',s,lD,hI,e⟩:=ir (R:=R) (L:=fun q=>ft b q) (b:=b) (len:=8) (B:=0) (I:=fun i (s:List aX)=>s.length=8/\∀ x∈s,bx x=true) (by omega)
  (fun i c0 s hi h1 h2 h3=>by
   obtain ⟨o,c1,bQ,e1⟩:=ee (R:=R) 2 (by decide) (by decide) c0 h1
   cases o with
   | true =>
    obtain ⟨x,c2,hx,eL,e2⟩:=BG (R:=R) c1 bQ.1
    refine ⟨c2,s.set i x,bQ.tr eL,⟨List.length_set.trans h3.1,fun y hy=> ?_⟩,fun q m _=> ?_⟩
    ·rcases mem_set hy with z | z
     ·exact h3.2 y z
     ·rw [z]; exact hx
    ·simp only [ft]
     rw [show decide ((i:Int)<8)=true by rw [zD]; omega,bw,pR h2,e1,bw,bQ.Y0 h2,e2,aJ,h3.1,show decide (i<8)=true by rw [zD]; omega,bf,zC]
   | false =>
    refine ⟨c1,s,bQ,h3,fun q m _=> ?_⟩
    simp only [ft]
    rw [show decide ((i:Int)<8)=true by rw [zD]; omega,bw,pR h2,e1,bh])
  (fun q m c0 s h=>by simp [ft]) 8 0 c l (by omega) hc hb ⟨hl,hi⟩
 exact ⟨c',s,lD,hI,fun q=>e q n (aP hn (by omega))⟩
theorem Re {n:Nat} (hn:bn<=n) (b:List UInt8) (c:dP) (hc:uq c) (hb:c.b=b) (l:List Block) (hl:l.length=16) (hi:∀ x∈l,bF x=true):∃ c' l',Cn c c'/\(l'.length=16/\∀ x∈l',bF x=true)/\∀ q:Int->Int->List Block->Option R,fB n b q n 0 c.i c.h l=q c'.i c'.h l':=by
 obtain ⟨c',s,lD,hI,e⟩:=ir (R:=R) (L:=fun q=>fB n b q) (b:=b) (len:=16) (B:=0) (I:=fun i (s:List Block)=>s.length=16/\∀ x∈s,bF x=true) (by omega)
  (fun i c0 s hi h1 h2 h3=>by
   obtain ⟨o,c1,bQ,e1⟩:=ee (R:=R) 2 (by decide) (by decide) c0 h1
   cases o with
   | true =>
    obtain ⟨x,c2,hx,eL,e2⟩:=Ay (R:=R) hn c1 bQ.1
    refine ⟨c2,s.set i x,bQ.tr eL,⟨List.length_set.trans h3.1,fun y hy=> ?_⟩,fun q m _=> ?_⟩
    ·rcases mem_set hy with z | z
     ·exact h3.2 y z
     ·rw [z]; exact hx
    ·simp only [fB]
     rw [show decide ((i:Int)<16)=true by rw [zD]; omega,bw,pR h2,e1,bw,bQ.Y0 h2,e2,aJ,h3.1,show decide (i<16)=true by rw [zD]; omega,bf,zC]
   | false =>
    refine ⟨c1,s,bQ,h3,fun q m _=> ?_⟩
    simp only [fB]
    rw [show decide ((i:Int)<16)=true by rw [zD]; omega,bw,pR h2,e1,bh])
  (fun q m c0 s h=>by simp [fB]) 16 0 c l (by omega) hc hb ⟨hl,hi⟩
 exact ⟨c',s,lD,hI,fun q=>e q n (aP hn (by omega))⟩
theorem NT {n:Nat} (hn:bn<=n) (b:List UInt8) (c:dP) (hc:uq c) (hb:c.b=b) (l:List Bool) (hl:l.length=16):∃ c' l',Cn c c'/\l'.length=16/\∀ q:Int->Int->List Bool->Option R,gJ b q n 0 c.i c.h l=q c'.i c'.h l':=by
 obtain ⟨c',s,lD,hI,e⟩:=ir (R:=R) (L:=fun q=>gJ b q) (b:=b) (len:=16) (B:=0) (I:=fun i (s:List Bool)=>s.length=16) (by omega)
  (fun i c0 s hi h1 h2 h3=>by
   obtain ⟨o,c1,bQ,e1⟩:=ee (R:=R) 2 (by decide) (by decide) c0 h1
   refine ⟨c1,s.set i o,bQ,List.length_set.trans h3,fun q m _=> ?_⟩
   simp only [gJ]
   rw [show decide ((i:Int)<16)=true by rw [zD]; omega,bw,pR h2,e1,aJ,h3,show decide (i<16)=true by rw [zD]; omega,bf,zC])
  (fun q m c0 s h=>by simp [gJ]) 16 0 c l (by omega) hc hb hl
 exact ⟨c',s,lD,hI,fun q=>e q n (aP hn (by omega))⟩
def Mo:List ByteArray:=[S [112],S [113],S [114],S [115]]
theorem NP {n:Nat} (hn:bn<=n) (b:List UInt8) (c:dP) (hc:uq c) (hb:c.b=b) (di:List aX) (p:Int) (p1:1<=p) (p2:p<=16) (PB:di.length=8) (h0:(di.getD 0 ay).ax.length=2) (hp:(di.getD 0 ay).ax.getD 0 0=p) (l:List Block) (hl:l.length=16) (hi:∀ x∈l,bF x=true)
  (T8:l.getD (p-1).toNat aA=⟨true,List.replicate 4 au,eS⟩):∃ c' l',Cn c c'/\(l'.length=16/\∀ x∈l',bF x=true)/\∀ q:Int->Int->List Block->Option R,gD b di q n 0 c.i c.h l=q c'.i c'.h l':=by
 obtain ⟨c',s,lD,hI,e⟩:=ir (R:=R) (L:=fun q=>gD b di q) (b:=b) (len:=4) (B:=0) (I:=fun i (s:List Block)=>s.length=16/\(∀ x∈s,bF x=true)/\(s.getD (p-1).toNat aA).cp=true/\(∀ t,i<=t->(s.getD (p-1).toNat aA).an.getD t au=au)/\∀ t,t<i->((s.getD (p-1).toNat aA).an.getD t au).Name=Mo.getD t eS) (by omega)
  (fun i c0 s hi h1 h2 h3=>by
   obtain ⟨a,c1,a1,a2,bQ,e1⟩:=bu (R:=R) 8 (by decide) (by decide) c0 h1
   obtain ⟨s1,s2,s3,s4,s5⟩:=h3
   have fM:(p-1).toNat<s.length:=by omega
   have QI:=s2 _ (aY aA fM)
   have Vy:=pO QI s3
   have hpq:bN (Mo.getD i eS)=true:=by
    match i,hi with
    | 0,_=>decide
    | 1,_=>decide
    | 2,_=>decide
    | 3,_=>decide
   have rE:bF (fb (s.getD (p-1).toNat aA) i ⟨Mo.getD i eS,1+a⟩)=true:=by
    refine mY QI s3 (by omega) (.inr ⟨hpq,⟨by show 1<=1+a; omega,by show 1+a<=8; omega⟩⟩) fun _ t ht=> ?_
    by_cases hti:t<i
    ·rw [s5 t hti]
     show Mo.getD t eS≠Mo.getD i eS
     match i,hi,t,hti with
     | 1,_,0,_=>decide
     | 2,_,0,_=>decide
     | 2,_,1,_=>decide
     | 3,_,0,_=>decide
     | 3,_,1,_=>decide
     | 3,_,2,_=>decide
    ·rw [s4 t (by omega)]; exact fun z=>gU hpq z.symm
   refine ⟨c1,s.set (p-1).toNat (fb (s.getD (p-1).toNat aA) i ⟨Mo.getD i eS,1+a⟩),bQ,⟨List.length_set.trans s1,fun y hy=> ?_,?_,fun t ht=> ?_,fun t ht=> ?_⟩,fun q m _=> ?_⟩
   ·rcases mem_set hy with z | z
    ·exact s2 y z
    ·rw [z]; exact rE
   ·rw [cF,if_pos ⟨rfl,fM⟩]; exact s3
   ·rw [cF,if_pos ⟨rfl,fM⟩]
    simp only [fb]; rw [cF,if_neg (by omega)]; exact s4 t (by omega)
   ·rw [cF,if_pos ⟨rfl,fM⟩]
    simp only [fb]; rw [cF]
    split
    ·next q=>rw [q.1]
    ·next q=>exact s5 t (by omega)
   ·simp only [gD,hp]
    rw [show decide ((i:Int)<4)=true by rw [zD]; omega,bw,ai (by rw [PB]; rfl),ai (by rw [h0]; rfl),bR (by omega) (by omega),ai (bB p1 (by omega)),
     show bc (i:Int) ([S [112],S [113],S [114],S [115]]:List ByteArray).length=true by rw [aJ,zD]; exact hi,bf,pR h2,e1,aJ,Vy,show decide (i<4)=true by rw [zD]; omega,bf,cy (n:=1+a) (by omega) (by omega),zC]
    rfl)
  (fun q m c0 s h=>by simp [gD]) 4 0 c l (by omega) hc hb ⟨hl,hi,by rw [T8],fun t _=>by
   rw [T8]
   match t with
   | 0=>rfl
   | 1=>rfl
   | 2=>rfl
   | 3=>rfl
   | t+4=>rfl,fun t ht=>absurd ht (Nat.not_lt_zero t)⟩
 exact ⟨c',s,lD,⟨hI.1,hI.2.1⟩,fun q=>e q n (aP hn (by omega))⟩
theorem LI {n:Nat} (hn:bn<=n) (c:dP) (hc:uq c):∃ d c',lG d/\Cn c c'/\∀ k:aa->dP->Option R,qj n c k=k d c':=by
 have hD:=lZ.1 AY
 obtain ⟨c1,l1,bQ,h1,e1⟩:=Rq (R:=R) hn c.b c hc rfl fy.ad hD.di hD.ino
 obtain ⟨c2,l2,eL,h2,e2⟩:=Re (R:=R) hn c.b c1 bQ.1 bQ.2 fy.ab hD.db hD.oR
 have b2:=bQ.tr eL
 obtain ⟨c3,l3,hY,h3,e3⟩:=NT (R:=R) hn c.b c2 eL.1 b2.2 fy.aq.ab hD.bb
 have b3:=b2.tr hY
 obtain ⟨o,c4,uW,e4⟩:=ee (R:=R) 6 (by decide) (by decide) c3 hY.1
 have b4:=b3.tr uW
 cases o with
 | true =>
  refine ⟨⟨⟨l3,fy.aq.bD⟩,l1,l2⟩,c4,⟨h3,hD.bi,h1.1,h2.1,h1.2,h2.2⟩,b4,fun k=> ?_⟩
  simp only [qj]
  rw [qE hn]
  refine (e1 _).trans ((e2 _).trans ((e3 _).trans ?_))
  rw [b3.mk',e4,b4.mk']; rfl
 | false =>
  obtain ⟨p,c5,p1,p2,zj,e5⟩:=bu (R:=R) 16 (by decide) (by decide) c4 uW.1
  have b5:=b4.tr zj
  obtain ⟨z,c6,z1,z2,KM,e6⟩:=bu (R:=R) 17 (by decide) (by decide) c5 zj.1
  have b6:=b5.tr KM
  have fM:(1+p-1).toNat<l2.length:=by rw [h2.1]; omega
  have abK:bx ⟨2,1,[1+p,z]⟩=true:=by
   simp only [bx,k7 (show (0:Int)<=2 by decide) (show (2:Int)<=2 by decide),k7 (show (0:Int)<=1 by decide) (show (1:Int)<=200 by decide),k7 (show 0<=1+p by omega) (show 1+p<=16 by omega),k7 z1 (show z<=16 by omega),List.all_cons,List.all_nil,zR,List.length_nil]
   rfl
  have hg0:(l1.set 0 ⟨2,1,[1+p,z]⟩).getD 0 ay=⟨2,1,[1+p,z]⟩:=by rw [cF,if_pos ⟨rfl,by omega⟩]
  obtain ⟨c7,l7,Wp,h7,e7⟩:=NP (R:=R) hn c.b c6 KM.1 b6.2 (l1.set 0 ⟨2,1,[1+p,z]⟩) (1+p) (by omega) (by omega) (List.length_set.trans h1.1) (by rw [hg0]; rfl) (by rw [hg0]; rfl) (l2.set (1+p-1).toNat ⟨true,List.replicate 4 au,eS⟩) (List.length_set.trans h2.1) (fun y hy=>by
   rcases mem_set hy with q | q
   ·exact h2.2 y q
   ·rw [q]; decide) (by rw [cF,if_pos ⟨rfl,fM⟩])
  have b7:=b6.tr Wp
  refine ⟨⟨⟨l3,fy.aq.bD⟩,l1.set 0 ⟨2,1,[1+p,z]⟩,l7⟩,c7,⟨h3,hD.bi,List.length_set.trans h1.1,h7.1,fun y hy=> ?_,h7.2⟩,b7,fun k=> ?_⟩
  ·rcases mem_set hy with q | q
   ·exact h1.2 y q
   ·rw [q]; exact abK
  ·simp only [qj]
   rw [qE hn]
   refine (e1 _).trans ((e2 _).trans ((e3 _).trans ?_))
   rw [b3.mk',e4,zN,bw,b4.mk',e5,b5.mk',e6,cy (n:=1+p) (by omega) (by omega),ai (by rw [h1.1]; rfl)]
   simp only [hg0]
   rw [ai (by rw [List.length_set,h1.1]; rfl),ai (by rfl),xG,show ([1+p,z]:List Int).getD 0 0=1+p from rfl,bR (by omega) (by omega),ai (bB (by omega) (by rw [h2.1]; omega))]
   refine (e7 _).trans ?_
   rw [b7.mk']
theorem Mq {n:Nat} (hn:bn<=n) (c:dP) (hc:uq c):∃ d c',lG d/\Cn c c'/\∀ k:aa->dP->Option R,nM n c k=k d c':=by
 obtain ⟨o,c1,bQ,e1⟩:=ee (R:=R) 3 (by decide) (by decide) c hc
 cases o with
 | true =>
  obtain ⟨d,c2,hd,eL,e2⟩:=LI (R:=R) hn c1 bQ.1
  have b2:=bQ.tr eL
  refine ⟨d,c2,hd,b2,fun k=> ?_⟩
  simp only [nM]
  rw [e1,bw,bQ.mk',e2,b2.mk']
 | false =>
  obtain ⟨w,c2,eL,hw,hr,e2⟩:=JZ (R:=R) hn c1 bQ.1
  have b2:=bQ.tr eL
  obtain ⟨o2,c3,hY,e3⟩:=ee (R:=R) 2 (by decide) (by decide) c2 eL.1
  have b3:=b2.tr hY
  cases o2 with
  | true =>
   refine ⟨w.Fs.Mem.aa,c3,hw.fs.m.g.R.d,b3,fun k=> ?_⟩
   simp only [nM]
   rw [e1,bh,bQ.mk',e2,b2.mk',e3,bw,oE hn _ hw.fs.m.g.R.d.t.sz,b3.mk']
  | false =>
   refine ⟨mB w.Fs.Device,c3,lG.of _,b3,fun k=> ?_⟩
   simp only [nM]
   rw [e1,bh,bQ.mk',e2,b2.mk',e3,bh,LA hn _ (Ev hw.fs.d),b3.mk']
   simp only [Fg,hw.fs.d,zE]
theorem wH {α:Type} (l:List α):sub l 1 (l.length-1)=l.drop 1:=by
 simp only [sub]; rw [List.take_of_length_le (by simp)]
theorem Q5 {n:Nat} (hn:bn<=n) (b:List UInt8) (c:dP) (hc:uq c) (hb:c.b=b) (l:List Bool) (hl:l.length<=1000):∃ c' l',Cn c c'/\l'.length=l.length/\∀ q:Int->Int->List Bool->Option R,im b q n 0 c.i c.h l=q c'.i c'.h l':=by
 obtain ⟨c',s,lD,hI,e⟩:=ir (R:=R) (L:=fun q=>im b q) (b:=b) (len:=l.length) (B:=0) (I:=fun i (s:List Bool)=>s.length=l.length) (by omega)
  (fun i c0 s hi h1 h2 h3=>by
   obtain ⟨o,c1,bQ,e1⟩:=ee (R:=R) 2 (by decide) (by decide) c0 h1
   refine ⟨c1,s.set i o,bQ,List.length_set.trans h3,fun q m _=> ?_⟩
   simp only [im,h3]
   rw [br,show decide (i<l.length)=true by rw [zD]; omega,bw,pR h2,e1,aJ,show decide (i<l.length)=true by rw [zD]; omega,bf,zC])
  (fun q m c0 s h=>by simp [im,h]) l.length 0 c l (by omega) hc hb rfl
 exact ⟨c',s,lD,hI,fun q=>e q n (aP hn (by omega))⟩
theorem RE {n:Nat} (hn:bn<=n) (b:List UInt8) (c:dP) (hc:uq c) (hb:c.b=b) (l:List Bool) (hl:l.length<=1000):∃ c' l',Cn c c'/\l'.length=l.length/\∀ q:Int->Int->List Bool->Option R,ib b q n 0 c.i c.h l=q c'.i c'.h l':=by
 obtain ⟨c',s,lD,hI,e⟩:=ir (R:=R) (L:=fun q=>ib b q) (b:=b) (len:=l.length) (B:=0) (I:=fun i (s:List Bool)=>s.length=l.length) (by omega)
  (fun i c0 s hi h1 h2 h3=>by
   obtain ⟨o,c1,bQ,e1⟩:=ee (R:=R) 2 (by decide) (by decide) c0 h1
   refine ⟨c1,s.set i o,bQ,List.length_set.trans h3,fun q m _=> ?_⟩
   simp only [ib,h3]
   rw [br,show decide (i<l.length)=true by rw [zD]; omega,bw,pR h2,e1,aJ,show decide (i<l.length)=true by rw [zD]; omega,bf,zC])
  (fun q m c0 s h=>by simp [ib,h]) l.length 0 c l (by omega) hc hb rfl
 exact ⟨c',s,lD,hI,fun q=>e q n (aP hn (by omega))⟩
theorem Ma {n:Nat} (hn:bn<=n) (c:dP) (hc:uq c):∃ (x:aq) (c':dP),(x.ab.length<=16/\x.bD.length<=9)/\Cn c c'/\∀ k:aq->dP->Option R,ua n c k=k x c':=by
 obtain ⟨c1,l1,bQ,h1,e1⟩:=Q5 (R:=R) hn c.b c hc rfl (List.replicate 16 false) (by decide)
 obtain ⟨c2,l2,eL,h2,e2⟩:=RE (R:=R) hn c.b c1 bQ.1 bQ.2 ((List.replicate 8 false).set 0 true) (by decide)
 have b2:=bQ.tr eL
 obtain ⟨o,c3,hY,e3⟩:=ee (R:=R) 10 (by decide) (by decide) c2 eL.1
 have b3:=b2.tr hY
 obtain ⟨o2,c4,uW,e4⟩:=ee (R:=R) 10 (by decide) (by decide) c3 hY.1
 have b4:=b3.tr uW
 have h1:l1.length=16:=h1
 have h2:l2.length=8:=h2
 refine ⟨⟨bif o then l1.drop 1 else l1,bif o2 then l2++[true] else l2⟩,c4,⟨?_,?_⟩,b4,fun k=> ?_⟩
 ·cases o<;>simp [h1]
 ·cases o2<;>simp [h2]
 ·simp only [ua,lU]
  rw [ai (by rfl)]
  refine (e1 _).trans ((e2 _).trans ?_)
  have k1:qd 1 l1.length=true:=by rw [h1]; rfl
  have k2:bg (l2++[true])=true:=cn (by rw [zK,h2]; simp)
  rw [b2.mk',e3,b3.mk',wH,k1,k2]
  simp only [e4,b4.mk',bf]
  cases o<;>cases o2<;>rfl
def Md (x:aX):Prop:=x.ax.length<=2/\(-1<=x.Kind/\x.Kind<=3)/\(-1<=x.Links/\x.Links<=201)/\∀ p∈x.ax,-1<=p/\p<=17
theorem Md.of {x:aX} (h:bx x=true):Md x:=by
 simp only [bx,zB,aj,beq_iff_eq,List.all_eq_true] at h
 obtain ⟨h1,h2,h3,h4,_⟩:=h
 refine ⟨by omega,by omega,by omega,fun p hp=> ?_⟩
 have:=(h4 p hp).1
 omega
theorem CM (c:dP) (hc:uq c):∃ x c',Md x/\Cn c c'/\∀ k:aX->dP->Option R,mw c k=k x c':=by
 obtain ⟨x,c1,hx,bQ,e1⟩:=BG (R:=R) c hc
 obtain ⟨r,c2,r1,r2,eL,e2⟩:=bu (R:=R) 12 (by decide) (by decide) c1 bQ.1
 have b2:=bQ.tr eL
 have hl:=jf hx
 obtain ⟨a1,a2,a3,a4⟩:=Md.of hx
 by_cases h0:r=0
 ·obtain ⟨z,c3,hz,hY,e3⟩:=eN (R:=R) [-1,0,3] (by decide) (by decide) c2 eL.1
  have b3:=b2.tr hY
  simp only [zI,List.not_mem_nil,or_false] at hz
  refine ⟨⟨z,x.Links,x.ax⟩,c3,⟨a1,by show -1<=z/\z<=3; omega,a3,a4⟩,b3,fun k=> ?_⟩
  simp only [mw]
  rw [e1,bQ.mk',e2,h0,show ((0:Int)==0)=true from rfl,bw,b2.mk',e3,b3.mk']
 ·by_cases h1:r=1
  ·obtain ⟨z,c3,hz,hY,e3⟩:=eN (R:=R) [-1,0,200,201] (by decide) (by decide) c2 eL.1
   have b3:=b2.tr hY
   simp only [zI,List.not_mem_nil,or_false] at hz
   refine ⟨⟨x.Kind,z,x.ax⟩,c3,⟨a1,a2,by show -1<=z/\z<=201; omega,a4⟩,b3,fun k=> ?_⟩
   simp only [mw]
   rw [e1,bQ.mk',e2,h1,show ((1:Int)==0)=false from rfl,bh,show ((1:Int)==1)=true from rfl,bw,b2.mk',e3,b3.mk']
  ·by_cases h2:r=2
   ·obtain ⟨z,c3,hz,hY,e3⟩:=eN (R:=R) [-1,16,17] (by decide) (by decide) c2 eL.1
    have b3:=b2.tr hY
    simp only [zI,List.not_mem_nil,or_false] at hz
    refine ⟨⟨x.Kind,x.Links,x.ax.set 0 z⟩,c3,⟨by show (x.ax.set 0 z).length<=2; rw [List.length_set]; exact a1,a2,a3,fun p hp=> ?_⟩,b3,fun k=> ?_⟩
    ·rcases mem_set hp with q | q
     ·exact a4 p q
     ·rw [q]; omega
    ·simp only [mw]
     rw [e1,bQ.mk',e2,h2,show ((2:Int)==0)=false from rfl,bh,show ((2:Int)==1)=false from rfl,bh,show ((2:Int)==2)=true from rfl,bw,b2.mk',e3,ai (by rw [hl]; rfl),b3.mk']
   ·by_cases h3:r=3
    ·refine ⟨⟨x.Kind,x.Links,x.ax.drop 1⟩,c2,⟨by show (x.ax.drop 1).length<=2; rw [List.length_drop]; omega,a2,a3,fun p hp=>a4 p (List.mem_of_mem_drop hp)⟩,b2,fun k=> ?_⟩
     simp only [mw]
     rw [e1,bQ.mk',e2,h3,show ((3:Int)==0)=false from rfl,bh,show ((3:Int)==1)=false from rfl,bh,show ((3:Int)==2)=false from rfl,bh,show ((3:Int)==3)=true from rfl,bw,wH,ai (by rw [hl]; rfl),b2.mk']
    ·refine ⟨x,c2,⟨a1,a2,a3,a4⟩,b2,fun k=> ?_⟩
     simp only [mw]
     rw [e1,bQ.mk',e2,beq_eq_false_iff_ne.2 h0,bh,beq_eq_false_iff_ne.2 h1,bh,beq_eq_false_iff_ne.2 h2,bh,beq_eq_false_iff_ne.2 h3,bh,b2.mk']
def Mj (b:Block):Prop:=b.an.length<=4/\b.Text.size<=17/\∀ s∈b.an,s.Name.size<=7/\ -1<=s.Ino/\s.Ino<=9
theorem uL {b:Block} (h:bF b=true) (hd:b.cp=false):b.an=[]/\b.Text.size<=16:=by
 simp only [bF,hd,zF,zB,beq_iff_eq,zD] at h
 exact ⟨List.length_eq_zero_iff.1 h.1,h.2⟩
theorem Mj.of {b:Block} (h:bF b=true):Mj b:=by
 cases hd:b.cp with
 | false =>
  obtain ⟨h1,h2⟩:=uL h hd
  exact ⟨by rw [h1]; exact Nat.zero_le _,by omega,fun s hs=>by rw [h1] at hs; exact (List.not_mem_nil hs).elim⟩
 | true =>
  obtain ⟨h1,h2,h3,_⟩:=(pE hd).1 h
  refine ⟨by omega,by rw [h2]; decide,fun s hs=> ?_⟩
  obtain ⟨i,hi,rfl⟩:=List.mem_iff_getElem.1 hs
  have:=h3 i (by omega)
  rw [fh _ _ hi] at this
  rcases this with q | ⟨q1,q2,q3⟩
  ·rw [q]; decide
  ·have:=(eW q1).2; omega
theorem CC {n:Nat} (hn:bn<=n) (c:dP) (hc:uq c):∃ x c',Mj x/\Cn c c'/\∀ k:Block->dP->Option R,ku n c k=k x c':=by
 obtain ⟨x,c1,hx,bQ,e1⟩:=Ay (R:=R) hn c hc
 obtain ⟨r,c2,r1,r2,eL,e2⟩:=bu (R:=R) 12 (by decide) (by decide) c1 bQ.1
 have b2:=bQ.tr eL
 obtain ⟨a1,a2,a3⟩:=Mj.of hx
 have Ch:∀ k:Block->Option R,lS x k=k x:=fun k=>vu x (Nat.le_trans a1 (by decide)) k
 have SM:∀ (i:Nat) (s:Slot),(s.Name.size<=7/\ -1<=s.Ino/\s.Ino<=9)->∀ y∈x.an.set i s,y.Name.size<=7/\ -1<=y.Ino/\y.Ino<=9:=fun i s hs y hy=>by
  rcases mem_set hy with q | q
  ·exact a3 y q
  ·rw [q]; exact hs
 have Jp:0<x.an.length->x.an.length=4:=fun h=>by
  cases hd:x.cp with
  | false=>rw [(uL hx hd).1] at h; cases h
  | true=>exact pO hx hd
 by_cases h0:r=0
 ·refine ⟨⟨!x.cp,x.an,x.Text⟩,c2,⟨a1,a2,a3⟩,b2,fun k=> ?_⟩
  simp only [ku]
  rw [e1,Ch,bQ.mk',e2,h0,show ((0:Int)==0)=true from rfl,bw,b2.mk']
 ·by_cases h1:r=1
  ·obtain ⟨z,c3,z1,z2,hY,e3⟩:=bu (R:=R) 2 (by decide) (by decide) c2 eL.1
   have b3:=b2.tr hY
   obtain ⟨zn,rfl⟩:=Int.eq_ofNat_of_zero_le z1
   obtain ⟨s,hs,e4⟩:=RI (R:=R) hn (16+zn) (by omega) 65 (by decide) (by decide)
   refine ⟨⟨x.cp,x.an,s⟩,c3,⟨a1,by show s.size<=17; omega,a3⟩,b3,fun k=> ?_⟩
   simp only [ku]
   rw [e1,Ch,bQ.mk',e2,h1,show ((1:Int)==0)=false from rfl,bh,show ((1:Int)==1)=true from rfl,bw,b2.mk',e3,show (16:Int)+(zn:Int)=((16+zn:Nat):Int) by omega,eC (n:=16+zn) (by omega),e4,b3.mk']
  ·by_cases h2:r=2
   ·by_cases hp:0<x.an.length
    ·have h4:=Jp hp
     obtain ⟨z,c3,hz,hY,e3⟩:=eN (R:=R) [-1,0,8,9] (by decide) (by decide) c2 eL.1
     have b3:=b2.tr hY
     simp only [zI,List.not_mem_nil,or_false] at hz
     refine ⟨⟨x.cp,x.an.set 1 ⟨(x.an.getD 1 au).Name,z⟩,x.Text⟩,c3,⟨by show (x.an.set 1 _).length<=4; rw [List.length_set]; exact a1,a2,SM 1 _ ⟨(a3 _ (aY au (by omega))).1,by show -1<=z; omega,by show z<=9; omega⟩⟩,b3,fun k=> ?_⟩
     simp only [ku]
     rw [e1,Ch,bQ.mk',e2,h2,show ((2:Int)==0)=false from rfl,bh,show ((2:Int)==1)=false from rfl,bh,show ((2:Int)==2)=true from rfl,bw,decide_eq_true (show (0:Int)<(x.an.length:Int) by omega),bw,b2.mk',e3,ai (by rw [h4]; rfl),b3.mk']
    ·refine ⟨x,c2,⟨a1,a2,a3⟩,b2,fun k=> ?_⟩
     simp only [ku]
     rw [e1,Ch,bQ.mk',e2,h2,show ((2:Int)==0)=false from rfl,bh,show ((2:Int)==1)=false from rfl,bh,show ((2:Int)==2)=true from rfl,bw,decide_eq_false (show ¬ (0:Int)<(x.an.length:Int) by omega),bh,b2.mk']
   ·by_cases h3:r=3
    ·by_cases hp:0<x.an.length
     ·have h4:=Jp hp
      obtain ⟨z,c3,hz,hY,e3⟩:=tJ (R:=R) [eS,S [65],S [97],S [97,98,99,100,101,102,103]] (by decide) (by decide) c2 eL.1
      have b3:=b2.tr hY
      have JB:z.size<=7:=by
       simp only [zI,List.not_mem_nil,or_false] at hz
       rcases hz with rfl | rfl | rfl | rfl<;>decide
      refine ⟨⟨x.cp,x.an.set 0 ⟨z,(x.an.getD 0 au).Ino⟩,x.Text⟩,c3,⟨by show (x.an.set 0 _).length<=4; rw [List.length_set]; exact a1,a2,SM 0 _ ⟨JB,(a3 _ (aY au (by omega))).2⟩⟩,b3,fun k=> ?_⟩
      simp only [ku]
      rw [e1,Ch,bQ.mk',e2,h3,show ((3:Int)==0)=false from rfl,bh,show ((3:Int)==1)=false from rfl,bh,show ((3:Int)==2)=false from rfl,bh,show ((3:Int)==3)=true from rfl,bw,decide_eq_true (show (0:Int)<(x.an.length:Int) by omega),bw,b2.mk',e3,ai (by rw [h4]; rfl),b3.mk']
     ·refine ⟨x,c2,⟨a1,a2,a3⟩,b2,fun k=> ?_⟩
      simp only [ku]
      rw [e1,Ch,bQ.mk',e2,h3,show ((3:Int)==0)=false from rfl,bh,show ((3:Int)==1)=false from rfl,bh,show ((3:Int)==2)=false from rfl,bh,show ((3:Int)==3)=true from rfl,bw,decide_eq_false (show ¬ (0:Int)<(x.an.length:Int) by omega),bh,b2.mk']
    ·refine ⟨x,c2,⟨a1,a2,a3⟩,b2,fun k=> ?_⟩
     simp only [ku]
     rw [e1,Ch,bQ.mk',e2,beq_eq_false_iff_ne.2 h0,bh,beq_eq_false_iff_ne.2 h1,bh,beq_eq_false_iff_ne.2 h2,bh,beq_eq_false_iff_ne.2 h3,bh,b2.mk']
structure yM (d:aa):Prop where
 bb:d.aq.ab.length<=16
 bi:d.aq.bD.length<=9
 di:d.ad.length=7\/d.ad.length=8
 db:d.ab.length=16
 ino:∀ x∈d.ad,Md x
 oR:∀ b∈d.ab,Mj b
theorem yM.of {d:aa} (h:lG d):yM d:=⟨by rw [h.bb]; decide,by rw [h.bi]; decide,.inr h.di,h.db,fun x hx=>Md.of (h.ino x hx),fun b hb=>Mj.of (h.oR b hb)⟩
theorem yM.sz {d:aa} (h:yM d):kj d:=by
 refine ⟨Nat.le_trans h.bb (by decide),Nat.le_trans h.bi (by decide),?_,by rw [h.db]; decide,fun x hx=>Nat.le_trans (h.ino x hx).1 (by decide),fun b hb=> ?_⟩
 ·rcases h.di with q | q<;>rw [q]<;>decide
 ·obtain ⟨a1,a2,a3⟩:=h.oR b hb
  exact ⟨Nat.le_trans a1 (by decide),Nat.le_trans a2 (by decide),fun s hs=>Nat.le_trans (a3 s hs).1 (by decide)⟩
theorem EF {n:Nat} (hn:bn<=n) (c:dP) (hc:uq c):∃ x c',yM x/\Cn c c'/\∀ k:aa->dP->Option R,mN n c k=k x c':=by
 obtain ⟨d,c1,hd,bQ,e1⟩:=Mq (R:=R) hn c hc
 obtain ⟨r,c2,r1,r2,eL,e2⟩:=bu (R:=R) 12 (by decide) (by decide) c1 bQ.1
 have b2:=bQ.tr eL
 have hA:=yM.of hd
 have Ch:∀ k:aa->Option R,jS n d k=k d:=fun k=>oE hn d hA.sz k
 by_cases h0:r=0
 ·obtain ⟨b,c3,hb,hY,e3⟩:=Ma (R:=R) hn c2 eL.1
  have b3:=b2.tr hY
  refine ⟨⟨b,d.ad,d.ab⟩,c3,⟨hb.1,hb.2,hA.di,hA.db,hA.ino,hA.oR⟩,b3,fun k=> ?_⟩
  simp only [mN]
  rw [e1,Ch,bQ.mk',e2,h0,show ((0:Int)==0)=true from rfl,bw,b2.mk',e3,b3.mk']
 ·by_cases h1:r=1
  ·obtain ⟨z,c3,z1,z2,hY,e3⟩:=bu (R:=R) 8 (by decide) (by decide) c2 eL.1
   have b3:=b2.tr hY
   obtain ⟨x,c4,hx,uW,e4⟩:=CM (R:=R) c3 hY.1
   have b4:=b3.tr uW
   refine ⟨⟨d.aq,d.ad.set z.toNat x,d.ab⟩,c4,⟨hA.bb,hA.bi,by rw [List.length_set]; exact hA.di,hA.db,fun y hy=> ?_,hA.oR⟩,b4,fun k=> ?_⟩
   ·rcases mem_set hy with q | q
    ·exact hA.ino y q
    ·rw [q]; exact hx
   ·simp only [mN]
    rw [e1,Ch,bQ.mk',e2,h1,show ((1:Int)==0)=false from rfl,bh,show ((1:Int)==1)=true from rfl,bw,b2.mk',e3,b3.mk',e4,ai (by rw [hd.di]; simp only [bc,zB,zD]; omega),b4.mk']
  ·by_cases h2:r=2
   ·obtain ⟨z,c3,z1,z2,hY,e3⟩:=bu (R:=R) 16 (by decide) (by decide) c2 eL.1
    have b3:=b2.tr hY
    obtain ⟨x,c4,hx,uW,e4⟩:=CC (R:=R) hn c3 hY.1
    have b4:=b3.tr uW
    refine ⟨⟨d.aq,d.ad,d.ab.set z.toNat x⟩,c4,⟨hA.bb,hA.bi,hA.di,by rw [List.length_set]; exact hA.db,hA.ino,fun y hy=> ?_⟩,b4,fun k=> ?_⟩
    ·rcases mem_set hy with q | q
     ·exact hA.oR y q
     ·rw [q]; exact hx
    ·simp only [mN]
     rw [e1,Ch,bQ.mk',e2,h2,show ((2:Int)==0)=false from rfl,bh,show ((2:Int)==1)=false from rfl,bh,show ((2:Int)==2)=true from rfl,bw,b2.mk',e3,b3.mk',e4,ai (by rw [hd.db]; simp only [bc,zB,zD]; omega),b4.mk']
   ·by_cases h3:r=3
    ·refine ⟨⟨d.aq,d.ad.drop 1,d.ab⟩,c2,⟨hA.bb,hA.bi,.inl (by rw [List.length_drop,hd.di]),hA.db,fun y hy=>hA.ino y (List.mem_of_mem_drop hy),hA.oR⟩,b2,fun k=> ?_⟩
     simp only [mN]
     rw [e1,Ch,bQ.mk',e2,h3,show ((3:Int)==0)=false from rfl,bh,show ((3:Int)==1)=false from rfl,bh,show ((3:Int)==2)=false from rfl,bh,show ((3:Int)==3)=true from rfl,bw,wH,ai (by rw [hd.di]; rfl),b2.mk']
    ·refine ⟨d,c2,hA,b2,fun k=> ?_⟩
     simp only [mN]
     rw [e1,Ch,bQ.mk',e2,beq_eq_false_iff_ne.2 h0,bh,beq_eq_false_iff_ne.2 h1,bh,beq_eq_false_iff_ne.2 h2,bh,beq_eq_false_iff_ne.2 h3,bh,b2.mk']
structure Gv (m:Mem):Prop where
 d:yM m.aa
 dy:20<=m.ak.length/\m.ak.length<=21
 dp:m.ae.length<=37
 nx:0<=m.Next/\m.Next<=100001
 dep:∀ x∈m.ae,rL x
theorem Gv.sz {m:Mem} (h:Gv m):eK m:=⟨h.d.sz,Nat.le_trans h.dy.2 (by decide),Nat.le_trans h.dp (by decide),h.dep⟩
theorem Gv.of {m:Mem} (h:j9 m):Gv m:=by
 have:=h.g.R.n1
 have:=h.g.R.n2
 have:=h.g.R.dy
 have:=h.len
 exact ⟨yM.of h.g.R.d,by omega,by omega,by omega,h.g.sz⟩
theorem OH {n:Nat} (hn:bn<=n) (c:dP) (hc:uq c):∃ w c',Cn c c'/\A2 28 w/\WR w/\∀ k:Mem->dP->Option R,vW n c k=k w.Fs.Mem c':=by
 obtain ⟨w,c1,bQ,hw,hr,e1⟩:=JZ (R:=R) hn c hc
 refine ⟨w,c1,bQ,hw,hr,fun k=> ?_⟩
 simp only [vW]
 rw [e1,bQ.mk']
theorem yO {n:Nat} (hn:bn<=n) (c:dP) (hc:uq c):∃ x c',Gv x/\Cn c c'/\∀ k:Mem->dP->Option R,iz n c k=k x c':=by
 obtain ⟨w,c1,bQ,hw,hr,e1⟩:=OH (R:=R) hn c hc
 obtain ⟨r,c2,r1,r2,eL,e2⟩:=bu (R:=R) 16 (by decide) (by decide) c1 bQ.1
 have b2:=bQ.tr eL
 have hI:=hw.fs.m
 generalize w.Fs.Mem=m at *
 have hA:=Gv.of hI
 have Ch:∀ k:Mem->Option R,dv n m k=k m:=fun k=>dZ hn m hA.sz k
 have hlen:=hI.len
 have SB:=hI.g.R.dy
 by_cases h0:r=0
 ·obtain ⟨d,c3,hd,hY,e3⟩:=EF (R:=R) hn c2 eL.1
  have b3:=b2.tr hY
  refine ⟨⟨d,m.ak,m.ae,m.Next⟩,c3,⟨hd,hA.dy,hA.dp,hA.nx,hA.dep⟩,b3,fun k=> ?_⟩
  simp only [iz]
  rw [e1,Ch,bQ.mk',e2,h0,show ((0:Int)==0)=true from rfl,bw,b2.mk',e3,b3.mk']
 ·by_cases h1:r=1
  ·refine ⟨⟨m.aa,m.ak.drop 1,m.ae,m.Next⟩,c2,⟨hA.d,by show 20<=(m.ak.drop 1).length/\_; rw [List.length_drop]; omega,hA.dp,hA.nx,hA.dep⟩,b2,fun k=> ?_⟩
   simp only [iz]
   rw [e1,Ch,bQ.mk',e2,h1,show ((1:Int)==0)=false from rfl,bh,show ((1:Int)==1)=true from rfl,bw,wH,ai (by rw [SB]; rfl),b2.mk']
  ·by_cases h2:r=2
   ·obtain ⟨z,c3,hz,hY,e3⟩:=eN (R:=R) [0,1,100000,100001] (by decide) (by decide) c2 eL.1
    have b3:=b2.tr hY
    simp only [zI,List.not_mem_nil,or_false] at hz
    refine ⟨⟨m.aa,m.ak,m.ae,z⟩,c3,⟨hA.d,hA.dy,hA.dp,by show 0<=z/\z<=100001; omega,hA.dep⟩,b3,fun k=> ?_⟩
    simp only [iz]
    rw [e1,Ch,bQ.mk',e2,h2,show ((2:Int)==0)=false from rfl,bh,show ((2:Int)==1)=false from rfl,bh,show ((2:Int)==2)=true from rfl,bw,b2.mk',e3,b3.mk']
   ·by_cases h3:r=3
    ·by_cases hp:0<m.ae.length
     ·obtain ⟨x,c3,x1,x2,hY,e3⟩:=bu (R:=R) (m.ae.length:Int) (by omega) (by omega) c2 eL.1
      have b3:=b2.tr hY
      obtain ⟨y,c4,y1,y2,uW,e4⟩:=bu (R:=R) 7 (by decide) (by decide) c3 hY.1
      have b4:=b3.tr uW
      obtain ⟨z,c5,hz,zj,e5⟩:=eN (R:=R) [-1,0,3,16,17] (by decide) (by decide) c4 uW.1
      have b5:=b4.tr zj
      have z5:bc x m.ae.length=true:=by simp only [bc,zB,zD]; omega
      have MX:=hA.dep _ (aY aH (show x.toNat<m.ae.length by omega))
      have hg:∀ y:bE,(m.ae.set x.toNat y).getD x.toNat aH=y:=fun y=>by rw [cF,if_pos ⟨rfl,by omega⟩]
      refine ⟨⟨m.aa,m.ak,(m.ae.set x.toNat { m.ae.getD x.toNat aH with Kind:=y }).set x.toNat { m.ae.getD x.toNat aH with Kind:=y,Block:=z },m.Next⟩,c5,⟨hA.d,hA.dy,by show List.length _<=37; rw [List.length_set,List.length_set]; exact hA.dp,hA.nx,fun d hd=> ?_⟩,b5,fun k=> ?_⟩
      ·rcases mem_set hd with q | q
       ·rcases mem_set q with q | q
        ·exact hA.dep d q
        ·rw [q]; exact MX
       ·rw [q]; exact MX
      ·simp only [iz]
       rw [e1,Ch,bQ.mk',e2,h3,show ((3:Int)==0)=false from rfl,bh,show ((3:Int)==1)=false from rfl,bh,show ((3:Int)==2)=false from rfl,bh,show ((3:Int)==3)=true from rfl,bw,
        decide_eq_true (show (0:Int)<(m.ae.length:Int) by omega),bw,b2.mk',e3,b3.mk',e4,ai z5,b4.mk',e5,List.length_set,ai z5,b5.mk']
       simp only [hg]
     ·refine ⟨m,c2,hA,b2,fun k=> ?_⟩
      simp only [iz]
      rw [e1,Ch,bQ.mk',e2,h3,show ((3:Int)==0)=false from rfl,bh,show ((3:Int)==1)=false from rfl,bh,show ((3:Int)==2)=false from rfl,bh,show ((3:Int)==3)=true from rfl,bw,
        decide_eq_false (show ¬ (0:Int)<(m.ae.length:Int) by omega),bh,b2.mk']
    ·by_cases h4:r=4
     ·by_cases hp:0<m.ae.length
      ·refine ⟨⟨m.aa,m.ak,m.ae++[m.ae.getD 0 aH],m.Next⟩,c2,⟨hA.d,hA.dy,by show List.length _<=37; rw [zK,zL]; omega,hA.nx,fun d hd=> ?_⟩,b2,fun k=> ?_⟩
       ·rcases zH.1 hd with q | q
        ·exact hA.dep d q
        ·rw [zS] at q; rw [q]; exact hA.dep _ (aY aH hp)
       ·simp only [iz]
        rw [e1,Ch,bQ.mk',e2,h4,show ((4:Int)==0)=false from rfl,bh,show ((4:Int)==1)=false from rfl,bh,show ((4:Int)==2)=false from rfl,bh,show ((4:Int)==3)=false from rfl,bh,show ((4:Int)==4)=true from rfl,bw,
         decide_eq_true (show (0:Int)<(m.ae.length:Int) by omega),bw,ai (by simp only [bc,zB,zD]; omega),ai (cn (by rw [zK,zL]; omega)),b2.mk']
      ·refine ⟨m,c2,hA,b2,fun k=> ?_⟩
       simp only [iz]
       rw [e1,Ch,bQ.mk',e2,h4,show ((4:Int)==0)=false from rfl,bh,show ((4:Int)==1)=false from rfl,bh,show ((4:Int)==2)=false from rfl,bh,show ((4:Int)==3)=false from rfl,bh,show ((4:Int)==4)=true from rfl,bw,
         decide_eq_false (show ¬ (0:Int)<(m.ae.length:Int) by omega),bh,b2.mk']
     ·refine ⟨m,c2,hA,b2,fun k=> ?_⟩
      simp only [iz]
      rw [e1,Ch,bQ.mk',e2,beq_eq_false_iff_ne.2 h0,bh,beq_eq_false_iff_ne.2 h1,bh,beq_eq_false_iff_ne.2 h2,bh,beq_eq_false_iff_ne.2 h3,bh,beq_eq_false_iff_ne.2 h4,bh,b2.mk']
theorem Gq {n:Nat} (hn:bn<=n) (code:List UInt8) (hc:code.length<=cL):∃ c:dP,uq c/\∀ k:dP->Option R,sQ n code k=k c:=by
 have lD:code.length<=2097152:=hc
 have key:∀ (r i:Nat) (h:Int),i+r=code.length->∃ h':Int,∀ (q:Int->Option R) (m:Nat),r<m->jo code q m h (i:Int)=q h':=by
  intro r
  induction r with
  | zero =>
   intro i h h1
   refine ⟨h,fun q m hm=> ?_⟩
   match m,hm with
   | m+1,_ =>
    simp only [jo]
    rw [br,show decide (i<code.length)=false by simp; omega,Bool.false_and,bh]
  | succ r ih =>
   intro i h h1
   by_cases h4:(i:Int)<4000
   ·obtain ⟨h',e⟩:=ih (i+1) (BC .i64 (aC ((aC ((aC (h*131))+(aC (((code.getD (i:Int).toNat 0).toNat:Int)))))+7)) 1073741823) (by omega)
    refine ⟨h',fun q m hm=> ?_⟩
    match m,hm with
    | m+1,hm =>
     simp only [jo]
     rw [br,show decide (i<code.length)=true by rw [zD]; omega,decide_eq_true h4,Bool.and_self,bw,aJ,show decide (i<code.length)=true by rw [zD]; omega,bf,bH (by omega)]
     exact e q m (by omega)
   ·refine ⟨h,fun q m hm=> ?_⟩
    match m,hm with
    | m+1,_ =>
     simp only [jo]
     rw [decide_eq_false h4,Bool.and_false,bh]
 obtain ⟨h',e⟩:=key code.length 0 (aC (37701+(code.length:Int))) (by omega)
 refine ⟨⟨code,0,h'⟩,⟨Int.le_refl 0,hc⟩,fun k=> ?_⟩
 simp only [sQ]
 exact e _ n (aP hn (by omega))
theorem pP {α:Type} (P:α->Bool) (x:α) (l:List α):(P x=true/\bY P (x::l)=0)\/(P x=false/\bY P l= -1/\bY P (x::l)= -1)\/(P x=false/\0<=bY P l/\bY P (x::l)=bY P l+1):=by
 simp only [bY]
 cases h:P x with
 | true=>exact .inl ⟨rfl,rfl⟩
 | false =>
  rcases fN P l with h | ⟨j,h,_⟩
  ·rw [h]; exact .inr (.inl ⟨rfl,rfl,rfl⟩)
  ·rw [h]; exact .inr (.inr ⟨rfl,by omega,rfl⟩)
theorem yK {α:Type} (P:α->Bool):∀ l:List α,decide (0<=bY P l)=l.any P
 | []=>rfl
 | x::l=>by
  have ih:=yK P l
  rw [List.any_cons]
  rcases pP P x l with ⟨h1,h2⟩ | ⟨h1,h2,h3⟩ | ⟨h1,h2,h3⟩
  ·rw [h2,h1]; rfl
  ·rw [h3,h1,← ih,h2]; rfl
  ·rw [h3,h1,← ih,decide_eq_true h2,decide_eq_true (by omega)]; rfl
theorem IK {α:Type} {L:Nat->Int->Option R} {l:List α} (d:α) {P:α->Bool} {e:Int->Option R} {B:Nat} (hl:l.length<=4611686018427387904)
  (hs:∀ m i,B<m->i<l.length->L (m+1) (i:Int)=bif P (l.getD i d) then e i else L m (aC ((i:Int)+1))) (hq:∀ m,L (m+1) (l.length:Int)=e (-1)) {n:Nat} (hn:l.length+B<n):L n 0=e (bY P l):=by
 have key:∀ (s:List α) (j m:Nat),s=l.drop j->j<=l.length->s.length+B<m->L m (j:Int)=e (if 0<=bY P s then (j:Int)+bY P s else -1):=by
  intro s
  induction s with
  | nil =>
   intro j m h1 h2 h3
   have:j=l.length:=by have:=congrArg List.length h1; simp at this; omega
   match m,h3 with
   | m+1,_=>rw [this,hq]; rfl
  | cons x s ih =>
   intro j m h1 h2 h3
   have hj:j<l.length:=by have:=congrArg List.length h1; simp at this; omega
   have hd:=cK d hj
   rw [← h1] at hd; injection hd with hb CP
   rw [zR] at h3
   match m,h3 with
   | m+1,h3 =>
    rw [hs m j (by omega) hj,← hb]
    rcases pP P x s with ⟨q1,q2⟩ | ⟨q1,q2,q3⟩ | ⟨q1,q2,q3⟩
    ·rw [q1,q2,if_pos (Int.le_refl 0),Int.add_zero]; rfl
    ·rw [q1,bh,bH (by omega),ih (j+1) m CP (by omega) (by omega),q2,q3,if_neg (by decide),if_neg (by decide)]
    ·rw [q1,bh,bH (by omega),ih (j+1) m CP (by omega) (by omega),q3,if_pos q2,if_pos (by omega)]
     congr 1; omega
 have:=key l 0 n (by simp) (by omega) hn
 rw [show ((0:Nat):Int)=0 from rfl] at this
 rw [this]
 congr 1
 rcases fN P l with h | ⟨j,h,_⟩
 ·rw [h]; rfl
 ·rw [h,if_pos (by omega)]; omega
theorem oO (l:List Bool) (h:l.length<=cL) (k:List Bool->Option R):kY l k=k l:=by
 have h:l.length<=2097152:=h
 simp only [kY,List.nil_append]; rw [ai (cn (by omega))]
theorem uF (l:List Int) (h:l.length<=cL) (k:List Int->Option R):oi l k=k l:=by
 have h:l.length<=2097152:=h
 simp only [oi,List.nil_append]; rw [ai (cn (by omega))]
theorem Cs (b:aq) (h1:b.ab.length<=cL) (h2:b.bD.length<=cL) (k:aq->Option R):qJ b k=k b:=by
 simp only [qJ]; rw [oO _ h1,oO _ h2]
theorem BR (x:aX) (h:Em x) (k:aX->Option R):pw x k=k x:=by
 simp only [pw]; rw [uF _ h]
theorem Ac (b:Block) (h:b.an.length<=cL) (k:Block->Option R):pB b k=k b:=by
 have h:b.an.length<=2097152:=h
 simp only [pB,List.nil_append]; rw [ai (cn (by omega))]
theorem Cx {n:Nat} (hn:bn<=n) (d:aa) (hd:kj d) (k:aa->Option R):qL n d k=k d:=by
 have l1:d.ad.length<=2097152:=hd.di
 have l2:d.ab.length<=2097152:=hd.db
 simp only [qL]
 rw [Cs _ hd.bb hd.bi]
 have h2:=oK (R:=R) (L:=fF (d.ab.length:Int) d.ab (fun eR=>k ⟨d.aq,d.ad,eR⟩)) (l:=d.ab) aA (f:=id) (B:=0) (q:=fun eR=>k ⟨d.aq,d.ad,eR⟩) (by omega)
  (fun m i acc _ hi ha=>by
   simp only [fF,br,aJ,hi,zV,bf,zE,zC]
   rw [Ac _ (hd.oR _ (aY aA hi)).1,ai (cb ha (by omega) (by simp))]; rfl) (fun m acc=>by simp only [fF,Int.lt_irrefl,decide_false,zF]) (n:=n) (aP hn (by omega))
 have h1:=oK (R:=R) (L:=iI (d.ad.length:Int) d.ad (fun v=>fF (d.ab.length:Int) d.ab (fun eR=>k ⟨d.aq,v,eR⟩) n 0 [])) (l:=d.ad) ay (f:=id) (B:=0) (q:=fun v=>fF (d.ab.length:Int) d.ab (fun eR=>k ⟨d.aq,v,eR⟩) n 0 []) (by omega)
  (fun m i acc _ hi ha=>by
   simp only [iI,br,aJ,hi,zV,bf,zE,zC]
   rw [BR _ (hd.ino _ (aY ay hi)),ai (cb ha (by omega) (by simp))]; rfl) (fun m acc=>by simp only [iI,Int.lt_irrefl,decide_false,zF]) (n:=n) (aP hn (by omega))
 rw [List.map_id] at h1 h2
 exact h1.trans h2
theorem EN (d:bE) (h:d.ab.length<=cL) (k:bE->Option R):ui d k=k d:=by
 simp only [ui]; rw [uF _ h]
theorem CA {n:Nat} (hn:bn<=n) (l:List bE) (hl:l.length<=cL) (hd:∀ d∈l,rL d) (k:List bE->Option R):rh n l k=k l:=by
 have xi:l.length<=2097152:=hl
 simp only [rh]
 have h2:=oK (R:=R) (L:=iE (l.length:Int) l k) (l:=l) aH (f:=id) (B:=0) (q:=k) (by omega)
  (fun m i acc _ hi ha=>by
   simp only [iE,br,aJ,hi,zV,bf,zE,zC]
   rw [EN _ (hd _ (aY aH hi)).2,ai (cb ha (by omega) (by simp))]; rfl) (fun m acc=>by simp only [iE,Int.lt_irrefl,decide_false,zF]) (n:=n) (aP hn (by omega))
 rw [List.map_id] at h2
 exact h2
theorem E8 {n:Nat} (hn:bn<=n) (m:Mem) (hm:eK m) (k:Mem->Option R):tE n m k=k m:=by
 simp only [tE]
 rw [Cx hn _ hm.d,oO _ hm.dy,CA hn _ hm.dp hm.dep]
def zx (m:Mem) (block slot:Int):bE×Bool:=jV (fun d=>(iC d&&(d.Block==block))&&(d.Slot==slot)) (fun d=>({ d with ab:=[] },true)) (⟨0,0,0,0,0,0,eS,false,false,0,[]⟩,false) m.ae
theorem BA {n:Nat} (hn:bn<=n) (m:Mem) (hm:m.ae.length<=cL) (block slot:Int) (k:bE->Bool->Option R):o8 n m block slot k=k (zx m block slot).1 (zx m block slot).2:=by
 have K4:m.ae.length<=2097152:=hm
 simp only [o8]
 have:=vC (R:=R) (L:=gX block slot (m.ae.length:Int) m.ae (fun x v eR dE fV jc lK gY pV yW pT dD=>k ⟨v,eR,dE,fV,jc,lK,gY,pV,yW,pT,[]⟩ x) (k ⟨0,0,0,0,0,0,eS,false,false,0,[]⟩ false)) (l:=m.ae) aH (B:=0)
  (P:=fun d=>(iC d&&(d.Block==block))&&(d.Slot==slot)) (e:=fun d=>k { d with ab:=[] } true) (q:=k ⟨0,0,0,0,0,0,eS,false,false,0,[]⟩ false) (by omega)
  (fun mm i _ hi=>by
   simp only [gX,sJ,br,aJ,hi,zV,bf,zE,zC]; rfl) (fun mm=>by simp [gX]) (aP hn (by omega))
 refine this.trans ?_
 exact p6 (fun p:bE×Bool=>k p.1 p.2) (fun d=>(iC d&&(d.Block==block))&&(d.Slot==slot)) (fun d=>({ d with ab:=[] },true)) (⟨0,0,0,0,0,0,eS,false,false,0,[]⟩,false) m.ae
theorem Ig (m:Mem) (block slot:Int):(zx m block slot).1.Id=eY m block slot:=by
 simp only [zx,eY]
 have:=p6 (fun p:bE×Bool=>p.1.Id) (fun d=>(iC d&&(d.Block==block))&&(d.Slot==slot)) (fun d=>(({ d with ab:=[] }:bE),true)) (⟨0,0,0,0,0,0,eS,false,false,0,[]⟩,false) m.ae
 rw [← this]
theorem Ai {n:Nat} (hn:bn<=n) (m:Mem) (hm:m.ae.length<=cL) (block slot:Int) (k:Int->Option R):wV n m block slot k=k (eY m block slot):=by
 simp only [wV]; rw [BA hn m hm,Ig]
theorem sE {α:Type} {L:Nat->Int->Int->List α->Option R} (d:α) {P:α->Bool} {q:Int->List α->Option R}
  (hs:∀ m (i j:Nat) s,i<j->j<s.length->s.length<=2097152->L (m+1) (i:Int) (j:Int) s=bif !P (s.getD j d) then L m ((i+1:Nat):Int) ((j+1:Nat):Int) (s.set i (s.getD j d)) else L m (i:Int) ((j+1:Nat):Int) s)
  (hq:∀ m (i:Nat) s,L (m+1) (i:Int) (s.length:Int) s=q (i:Int) s):∀ (r j i:Nat) (s:List α) (m:Nat),j+r=s.length->i<j->s.length<=2097152->r<m ->
   ∃ s',s'.length=s.length/\i+((s.drop j).filter fun x=> !P x).length<=s.length/\s'.take (i+((s.drop j).filter fun x=> !P x).length)=s.take i++(s.drop j).filter (fun x=> !P x)/\L m (i:Int) (j:Int) s=q ((i+((s.drop j).filter fun x=> !P x).length:Nat):Int) s'
 | 0,j,i,s,m,h1,h2,h3,h4=>by
  have:j=s.length:=by omega
  subst this
  match m,h4 with
  | m+1,_ =>
   refine ⟨s,rfl,by simp; omega,by simp,?_⟩
   rw [hq]; simp
 | r+1,j,i,s,m,h1,h2,h3,h4=>by
  have hj:j<s.length:=by omega
  match m,h4 with
  | m+1,h4 =>
   have hd:=cK d hj
   generalize hx:s.getD j d=x at hd
   have Cl:=hs m i j s h2 hj h3
   rw [hx] at Cl
   cases hP:P x with
   | true =>
    obtain ⟨s',a1,a2,a3,a4⟩:=sE d hs hq r (j+1) i s m (by omega) (by omega) h3 (by omega)
    have hf:(s.drop j).filter (fun x=> !P x)=(s.drop (j+1)).filter (fun x=> !P x):=by rw [hd,List.filter_cons,hP]; rfl
    rw [hf]
    refine ⟨s',a1,a2,a3,?_⟩
    rw [Cl,hP]; exact a4
   | false =>
    obtain ⟨s',a1,a2,a3,a4⟩:=sE d hs hq r (j+1) (i+1) (s.set i x) m (by rw [List.length_set]; omega) (by omega) (by rw [List.length_set]; exact h3) (by omega)
    have Ww:(s.set i x).drop (j+1)=s.drop (j+1):=by
     rw [List.drop_set]; rw [if_pos (by omega)]
    rw [List.length_set] at a1 a2
    rw [Ww] at a2 a3 a4
    have hf:(s.drop j).filter (fun x=> !P x)=x::(s.drop (j+1)).filter (fun x=> !P x):=by rw [hd,List.filter_cons,hP]; rfl
    rw [hf,zR]
    have e1:i+((List.filter (fun x=> !P x) (List.drop (j+1) s)).length+1)=i+1+(List.filter (fun x=> !P x) (List.drop (j+1) s)).length:=by omega
    rw [e1]
    refine ⟨s',a1,a2,?_,?_⟩
    ·rw [a3,List.take_add_one,List.take_set_of_le (Nat.le_refl i)]
     rw [List.getElem?_set_self (by omega)]
     simp
    ·rw [Cl,hP]; exact a4
theorem we {α:Type} (P:α->Bool):∀ (l:List α) (j:Nat),bY P l=(j:Int)->l.filter (fun x=> !P x)=l.take j++(l.drop (j+1)).filter fun x=> !P x
 | [],j,h=>by simp [bY] at h
 | x::l,j,h=>by
  rcases pP P x l with ⟨q1,q2⟩ | ⟨q1,q2,q3⟩ | ⟨q1,q2,q3⟩
  ·rw [q2] at h
   have:j=0:=by omega
   subst this
   simp [List.filter_cons,q1]
  ·rw [q3] at h; omega
  ·obtain ⟨i,hi⟩:=Int.eq_ofNat_of_zero_le q2
   rw [q3,hi] at h
   have:j=i+1:=by omega
   subst this
   have ih:=we P l i hi
   rw [List.filter_cons,q1]
   simp [ih]
theorem filter_none {α:Type} (P:α->Bool) (l:List α) (h:bY P l= -1):l.filter (fun x=> !P x)=l:=by
 refine List.filter_eq_self.2 fun x hx=> ?_
 have:=yK P l
 rw [h] at this
 have h2:l.any P=false:=this.symm
 rw [List.any_eq_false] at h2
 simpa using h2 x hx
def EU (K:List bE->Int->Option R) (i Hw:Int) (Jr:List bE):Option R:=aK (qd i Jr.length)<|aK (qd i (Jr.take i.toNat++(List.replicate (Jr.length-i.toNat) aH++Jr.drop (i.toNat+(Jr.length-i.toNat)))).length)<|K (sub (Jr.take i.toNat++(List.replicate (Jr.length-i.toNat) aH++Jr.drop (i.toNat+(Jr.length-i.toNat)))) 0 i.toNat) Hw
theorem It {n:Nat} (hn:bn<=n) (s:List bE) (hm:s.length<=cL) (P:bE->Bool) (cap:Int) (K:List bE->Int->Option R)
  (IL:(Int->Int->Option R)->(Int->Option R)->Nat->Int->Int->Option R) (DL:(Int->Int->List bE->Option R)->Nat->Int->Int->Int->List bE->Option R)
  (hI:∀ q0 q1 m (i:Nat),i<s.length->IL q0 q1 (m+1) (i:Int) cap=bif P (s.getD i aH) then q0 (i:Int) cap else IL q0 q1 m (aC ((i:Int)+1)) cap) (KP:∀ q0 q1 m,IL q0 q1 (m+1) (s.length:Int) cap=q1 cap)
  (hD:∀ q m (i j:Nat) (s:List bE),i<j->j<s.length->s.length<=2097152->DL q (m+1) (i:Int) (j:Int) cap s=bif !P (s.getD j aH) then DL q m ((i+1:Nat):Int) ((j+1:Nat):Int) cap (s.set i (s.getD j aH)) else DL q m (i:Int) ((j+1:Nat):Int) cap s)
  (hD':∀ q m (i:Nat) s,DL q (m+1) (i:Int) (s.length:Int) cap s=q (i:Int) cap s) (A:Int->Int->Option R)
  (hA:∀ r vo,A r vo=bif (r==(-1)) then K s vo else DL (EU K) n r (aC (r+1)) vo s) :
  IL (fun x c=>A x c) (fun c=>A (-1) c) n 0 cap=K (s.filter fun d=> !P d) cap:=by
 have K4:s.length<=2097152:=hm
 refine (IK (R:=R) (L:=fun m i=>IL (fun x c=>A x c) (fun c=>A (-1) c) m i cap) (l:=s) aH (B:=0) (P:=P) (e:=fun i=>A i cap) (by omega)
   (fun m i _ hi=>hI _ _ m i hi) (fun m=>KP _ _ m) (aP hn (by omega))).trans ?_
 show A (bY P s) cap=_
 rcases fN P s with h | ⟨j,h,hj⟩
 ·rw [h,hA,show ((-1:Int)== -1)=true from rfl,bw,filter_none P s h]
 ·rw [h,hA,show (((j:Nat):Int)== -1)=false by rw [beq_eq_false_iff_ne]; omega,bh,bH (by omega)]
  obtain ⟨s',a1,a2,a3,a4⟩:=sE (R:=R) (L:=fun mm i j s=>DL (EU K) mm i j cap s) aH (P:=P) (q:=fun i s=>EU K i cap s)
   (fun mm i j s Tj VJ pU=>hD _ mm i j s Tj VJ pU) (fun mm i s=>hD' _ mm i s) (s.length-(j+1)) (j+1) j s n (by omega) (by omega) (by omega) (aP hn (by omega))
  refine a4.trans ?_
  generalize hc:j+((s.drop (j+1)).filter fun x=> !P x).length=c at *
  have lD:c<=s'.length:=by omega
  rw [EU,zC,ai (by simp only [qd,zB,zD]; omega),ai (by simp only [qd,zB,zD,zK,List.length_take,List.length_replicate,List.length_drop]; omega)]
  have:sub (s'.take c++(List.replicate (s'.length-c) aH++s'.drop (c+(s'.length-c)))) 0 c=s'.take c:=by
   simp only [sub,List.drop_zero]
   rw [List.take_append_of_le_length (by rw [List.length_take]; omega),List.take_take,Nat.min_self]
  rw [this,a3,← we P s j h]
theorem CI {n:Nat} (hn:bn<=n) (id:Int) (m:Mem) (hm:m.ae.length<=cL) (k:Mem->Option R):rm n id m k=k (aQ m id):=by
 simp only [rm,dF,dQ,aQ]
 exact It hn m.ae hm (fun d=>d.Id==id) id (fun r vo=>k ⟨m.aa,m.ak,r,m.Next⟩) (bC (m.ae.length:Int) m.ae) bp
  (fun q0 q1 m i hi=>by simp only [bC,lr,br,aJ,hi,zV,bf,zE,zC]) (fun q0 q1 m=>by simp [bC])
  (fun q mm i j s Tj VJ pU=>by
    simp only [bp,lr,br,aJ,VJ,zV,zE,bf,zC]
    rw [show decide (i<s.length)=true by rw [zD]; omega,bf,bH (by omega),bH (by omega)])
  (fun q mm i s=>by simp [bp]) _ (fun r vo=>rfl)
theorem Eh {n:Nat} (hn:bn<=n) (m:Mem) (hm:eK m) (id:Int) (k:Mem->Option R):ur n m id k=k (aQ m id):=by
 simp only [ur]
 rw [E8 hn m hm,CI hn id m hm.dp]; rfl
def fi {α:Type} (f:α->α->Bool):List α->List α->Bool
 | [],[]=>true
 | a::x,b::y=>f a b&&fi f x y
 | _,_=>false
theorem Dd {α:Type} {f:α->α->Bool}:∀ {x y:List α},fi f x y=true->x.length=y.length
 | [],[],_=>rfl
 | a::x,b::y,h=>by
  simp only [fi,zB] at h
  simp [Dd h.2]
 | [],b::y,h=>by simp [fi] at h
 | a::x,[],h=>by simp [fi] at h
theorem mG {α:Type} {f:α->α->Bool} {x y:List α} (h:x.length≠y.length):fi f x y=false:=by
 cases hs:fi f x y with
 | false=>rfl
 | true=>exact absurd (Dd hs) h
theorem ik {α:Type} {f:α->α->Bool} (hf:∀ a,f a a=true):∀ x:List α,fi f x x=true
 | []=>rfl
 | a::x=>by simp only [fi,hf,ik hf x,Bool.and_self]
theorem yF {α:Type} (f:α->α->Bool) (d:α) (X Y:List α):∀ (x y:List α) (i:Nat),x=X.drop i->y=Y.drop i->x.length=y.length->(List.range' i x.length).all (fun j=>f (X.getD j d) (Y.getD j d))=fi f x y
 | [],[],i,_,_,_=>rfl
 | a::x,b::y,i,h1,h2,h3=>by
  have hx:i<X.length:=by have:=congrArg List.length h1; simp at this; omega
  have hy:i<Y.length:=by have:=congrArg List.length h2; simp at this; omega
  have d1:=cK d hx
  have d2:=cK d hy
  rw [← h1] at d1
  rw [← h2] at d2
  injection d1 with ha zW
  injection d2 with hb MI
  rw [zR,List.range'_succ,List.all_cons,← ha,← hb,yF f d X Y x y (i+1) zW MI (by simpa using h3)]
  rfl
theorem kN {α:Type} {L:Nat->Int->Option R} (f:α->α->Bool) (d:α) (x y:List α) {e q:Option R} (hl:x.length<=cL) (MZ:x.length=y.length) {B:Nat}
  (hs:∀ m i,B<m->i<x.length->i<y.length->L (m+1) (i:Int)=bif f (x.getD i d) (y.getD i d) then L m (aC ((i:Int)+1)) else e) (hq:∀ m,L (m+1) (x.length:Int)=q)
  {n:Nat} (hn:x.length+B<n):L n 0=bif fi f x y then q else e:=by
 have xi:x.length<=2097152:=hl
 have:=mA (R:=R) (p:=fun i=>f (x.getD i d) (y.getD i d)) (by omega) (fun m i h1 h2=>hs m i h1 h2 (by omega)) hq x.length n 0 (by omega) hn
 rw [yF f d x y x y 0 rfl rfl MZ] at this
 exact this
def pa (a b:aX):Bool:=(a.Kind==b.Kind&&a.Links==b.Links)&&fi (fun p q=>p==q) a.ax b.ax
def s9 (a b:Slot):Bool:=a.Name==b.Name&&a.Ino==b.Ino
def pr (a b:Block):Bool:=(a.cp==b.cp&&a.Text==b.Text)&&fi s9 a.an b.an
def p4 (a b:aa):Bool:=((fi (fun p q=>p==q) a.aq.ab b.aq.ab&&fi (fun p q=>p==q) a.aq.bD b.aq.bD)&&fi pa a.ad b.ad)&&fi pr a.ab b.ab
theorem Cw (a:Slot):s9 a a=true:=by simp [s9]
theorem Eo (a:aX):pa a a=true:=by simp [pa,ik]
theorem E3 (a:Block):pr a a=true:=by simp [pr,ik Cw]
theorem CK (a:aa):p4 a a=true:=by simp [p4,ik Eo,ik E3,ik (f:=fun p q:Bool=>p==q) (fun a=>by simp)]
theorem rN {n:Nat} (hn:bn<=n) (a b:List Bool) (ha:a.length<=cL) (k:Bool->Option R):ji n a b k=k (fi (fun p q=>p==q) a b):=by
 have Fw:a.length<=2097152:=ha
 simp only [ji,dN]
 by_cases h:a.length=b.length
 ·rw [beq_iff_eq.2 h,zM,bh]
  refine (kN (R:=R) (L:=fun m i=>e9 a b (fun x=>k x) (k true) m i) (fun p q:Bool=>p==q) false a b (e:=k false) (q:=k true) ha h (B:=0)
   (fun m i _ h1 h2=>by
    simp only [e9,br,aJ,h1,h2,zV,zE,bf,zC]
    cases (a.getD i false==b.getD i false)<;>rfl) (fun m=>by simp [e9]) (aP hn (by omega))).trans ?_
  cases fi _ a b<;>rfl
 ·rw [beq_eq_false_iff_ne.2 h,mG h]; rfl
theorem IA {n:Nat} (hn:bn<=n) (a b:aX) (ha:a.ax.length<=cL) (k:Bool->Option R):tO n a b k=k (pa a b):=by
 have Fw:a.ax.length<=2097152:=ha
 simp only [tO,dN,pa]
 cases h1:a.Kind==b.Kind with
 | false=>rfl
 | true =>
  cases h2:a.Links==b.Links with
  | false=>rfl
  | true =>
   by_cases h:a.ax.length=b.ax.length
   ·rw [beq_iff_eq.2 h]
    simp only [zM,Bool.or_self,zF,Bool.and_self,Bool.true_and]
    refine (kN (R:=R) (L:=fun m i=>jI a.ax b.ax (fun x=>k x) (k true) m i) (fun p q:Int=>p==q) 0 a.ax b.ax (e:=k false) (q:=k true) ha h (B:=0)
     (fun m i _ h1 h2=>by
      simp only [jI,br,aJ,h1,h2,zV,zE,bf,zC]
      cases (a.ax.getD i 0==b.ax.getD i 0)<;>rfl) (fun m=>by simp [jI]) (aP hn (by omega))).trans ?_
    cases fi _ a.ax b.ax<;>rfl
   ·rw [beq_eq_false_iff_ne.2 h,mG h]; rfl
theorem IB {n:Nat} (hn:bn<=n) (a b:Block) (ha:a.an.length<=cL) (k:Bool->Option R):tF n a b k=k (pr a b):=by
 have Fw:a.an.length<=2097152:=ha
 simp only [tF,dN,pr]
 cases h1:a.cp==b.cp with
 | false=>rfl
 | true =>
  cases h2:a.Text==b.Text with
  | false=>rfl
  | true =>
   by_cases h:a.an.length=b.an.length
   ·rw [beq_iff_eq.2 h]
    simp only [zM,Bool.or_self,zF,Bool.and_self,Bool.true_and]
    refine (kN (R:=R) (L:=fun m i=>jN a.an b.an (fun x=>k x) (k true) m i) s9 au a.an b.an (e:=k false) (q:=k true) ha h (B:=0)
     (fun m i _ h1 h2=>by
      simp only [jN,br,aJ,h1,h2,zV,zE,bf,zC,s9]
      cases ((a.an.getD i au).Name==(b.an.getD i au).Name&&(a.an.getD i au).Ino==(b.an.getD i au).Ino)<;>rfl) (fun m=>by simp [jN]) (aP hn (by omega))).trans ?_
    cases fi _ a.an b.an<;>rfl
   ·rw [beq_eq_false_iff_ne.2 h,mG h]; rfl
theorem FN {n:Nat} (hn:bn<=n) (a b:aa) (ha:kj a) (k:Bool->Option R):qs n a b k=k (p4 a b):=by
 have hi:a.ad.length<=2097152:=ha.di
 have hb:a.ab.length<=2097152:=ha.db
 simp only [qs,dN,p4]
 rw [rN hn _ _ ha.bb,rN hn _ _ ha.bi]
 cases fi _ a.aq.ab b.aq.ab with
 | false=>rfl
 | true =>
  cases fi _ a.aq.bD b.aq.bD with
  | false=>rfl
  | true =>
   by_cases h1:a.ad.length=b.ad.length
   ·by_cases h2:a.ab.length=b.ab.length
    ·rw [beq_iff_eq.2 h1,beq_iff_eq.2 h2]
     simp only [zM,zN,Bool.or_self,zF,zE,Bool.and_self,Bool.true_and]
     refine (kN (R:=R) (L:=fun m i=>iJ n a.ad b.ad (fun x=>k x) (fG n a.ab b.ab (fun kD=>k kD) (k true) n 0) m i) pa ay a.ad b.ad (e:=k false) (q:=fG n a.ab b.ab (fun kD=>k kD) (k true) n 0) ha.di h1 (B:=0)
      (fun m i _ h1 h2=>by
       simp only [iJ,br,aJ,h1,h2,zV,zE,bf,zC]
       rw [IA hn _ _ (ha.ino _ (aY _ h1))]
       cases pa _ _<;>rfl) (fun m=>by simp [iJ]) (aP hn (by omega))).trans ?_
     cases fi pa a.ad b.ad with
     | false=>rfl
     | true =>
      rw [bw]
      refine (kN (R:=R) (L:=fun m i=>fG n a.ab b.ab (fun kD=>k kD) (k true) m i) pr aA a.ab b.ab (e:=k false) (q:=k true) ha.db h2 (B:=0)
       (fun m i _ h1 h2=>by
        simp only [fG,br,aJ,h1,h2,zV,zE,bf,zC]
        rw [IB hn _ _ (ha.oR _ (aY _ h1)).1]
        cases pr _ _<;>rfl) (fun m=>by simp [fG]) (aP hn (by omega))).trans ?_
      cases fi pr a.ab b.ab<;>rfl
    ·rw [beq_eq_false_iff_ne.2 h2,mG h2]
     simp only [zM,zN,Bool.or_true,zE,Bool.and_false]
   ·rw [beq_eq_false_iff_ne.2 h1,mG h1]
    simp only [zM,zN,Bool.or_true,Bool.true_or,zE,Bool.and_false,Bool.false_and]
def uk (a b:bE):Bool:=(((((((((a.Id==b.Id&&a.Kind==b.Kind)&&a.Ino==b.Ino)&&a.Ptr==b.Ptr)&&a.Block==b.Block)&&a.Slot==b.Slot)&&a.Name==b.Name)&&a.aq==b.aq)&&a.et==b.et)&&a.bz==b.bz)&&fi (fun p q=>p==q) a.ab b.ab
def zo (a b:Mem):Bool:=((p4 a.aa b.aa&&a.Next==b.Next)&&fi (fun p q=>p==q) a.ak b.ak)&&fi uk a.ae b.ae
theorem ET (a:bE):uk a a=true:=by simp [uk,ik]
theorem Er (a:Mem):zo a a=true:=by simp [zo,CK,ik ET,ik (f:=fun p q:Bool=>p==q) (fun a=>by simp)]
theorem Gs {n:Nat} (hn:bn<=n) (a b:List Int) (ha:a.length<=cL) (k:Bool->Option R):qT n a b k=k (fi (fun p q=>p==q) a b):=by
 have Fw:a.length<=2097152:=ha
 simp only [qT,dN]
 by_cases h:a.length=b.length
 ·rw [beq_iff_eq.2 h,zM,bh]
  refine (kN (R:=R) (L:=fun m i=>iO a b (fun x=>k x) (k true) m i) (fun p q:Int=>p==q) 0 a b (e:=k false) (q:=k true) ha h (B:=0)
   (fun m i _ h1 h2=>by
    simp only [iO,br,aJ,h1,h2,zV,zE,bf,zC]
    cases (a.getD i 0==b.getD i 0)<;>rfl) (fun m=>by simp [iO]) (aP hn (by omega))).trans ?_
  cases fi _ a b<;>rfl
 ·rw [beq_eq_false_iff_ne.2 h,mG h]; rfl
theorem ID {n:Nat} (hn:bn<=n) (a b:Mem) (ha:eK a) (k:Bool->Option R):ug n a b k=k (zo a b):=by
 have hd:a.ak.length<=2097152:=ha.dy
 have hp:a.ae.length<=2097152:=ha.dp
 simp only [ug,dN,zo]
 rw [FN hn _ _ ha.d]
 cases p4 a.aa b.aa with
 | false=>rfl
 | true =>
  cases a.Next==b.Next with
  | false=>rfl
  | true =>
   by_cases h1:a.ak.length=b.ak.length
   ·by_cases h2:a.ae.length=b.ae.length
    ·rw [beq_iff_eq.2 h1,beq_iff_eq.2 h2]
     simp only [zM,zN,Bool.or_self,zF,zE,Bool.and_self,Bool.true_and]
     refine (kN (R:=R) (L:=fun m i=>jK a.ak b.ak (fun x=>k x) (gA n a.ae b.ae (fun kD=>k kD) (k true) n 0) m i) (fun p q:Bool=>p==q) false a.ak b.ak (e:=k false) (q:=gA n a.ae b.ae (fun kD=>k kD) (k true) n 0) ha.dy h1 (B:=0)
      (fun m i _ h1 h2=>by
       simp only [jK,br,aJ,h1,h2,zV,zE,bf,zC]
       cases (a.ak.getD i false==b.ak.getD i false)<;>rfl) (fun m=>by simp [jK]) (aP hn (by omega))).trans ?_
     cases fi _ a.ak b.ak with
     | false=>rfl
     | true =>
      rw [bw]
      refine (kN (R:=R) (L:=fun m i=>gA n a.ae b.ae (fun kD=>k kD) (k true) m i) uk aH a.ae b.ae (e:=k false) (q:=k true) ha.dp h2 (B:=0)
       (fun m i _ h1 h2=>by
        simp only [gA,br,aJ,h1,h2,zV,zE,bf,zC]
        rw [Gs hn _ _ (ha.dep _ (aY _ h1)).2]
        generalize hs:fi _ (a.ae.getD i aH).ab (b.ae.getD i aH).ab=s
        simp only [uk,hs,← Bool.not_and]
        generalize ((((((((((a.ae.getD i aH).Id==(b.ae.getD i aH).Id&&(a.ae.getD i aH).Kind==(b.ae.getD i aH).Kind)&&_)&&_)&&_)&&_)&&_)&&_)&&_)&&_:Bool)=t
        cases t<;>cases s<;>rfl) (fun m=>by simp [gA]) (aP hn (by omega))).trans ?_
      cases fi uk a.ae b.ae<;>rfl
    ·rw [beq_eq_false_iff_ne.2 h2,mG h2]
     simp only [zM,zN,Bool.or_true,zE,Bool.and_false]
   ·rw [beq_eq_false_iff_ne.2 h1,mG h1]
    simp only [zM,zN,Bool.or_true,Bool.true_or,zE,Bool.and_false,Bool.false_and]
def Y6 (x:Int):List Int:=[-1,x,aC (x+1),9223372036854775807,-9223372036854775808]
theorem JO (x:Int):(Y6 x).length=5:=rfl
theorem Of (x:Int) (c:dP) (k:Int->dP->Option R):iu x c k=cd 15 c fun r lo=>bif r then cM (Y6 x) ⟨c.b,lo.i,lo.h⟩ fun c8 bK=>k c8 ⟨c.b,bK.i,bK.h⟩ else aF x ⟨c.b,lo.i,lo.h⟩ fun dC bJ=>k dC ⟨c.b,bJ.i,bJ.h⟩:=by
 unfold iu Y6; rfl
theorem qp (x:Int) (h1:0<x) (h2:x<=1000) (c:dP) (hc:uq c):∃ y c',Cn c c'/\∀ k:Int->dP->Option R,iu x c k=k y c':=by
 obtain ⟨o,c1,bQ,e1⟩:=ee (R:=R) 15 (by decide) (by decide) c hc
 cases o with
 | true =>
  obtain ⟨y,c2,hy,eL,e2⟩:=eN (R:=R) (Y6 x) (by rw [JO]; omega) (by rw [JO]; show 5<=2097152; omega) c1 bQ.1
  refine ⟨y,c2,bQ.tr eL,fun k=> ?_⟩
  rw [Of,e1,bw,bQ.mk',e2,(bQ.tr eL).mk']
 | false =>
  obtain ⟨y,c2,_,_,eL,e2⟩:=bu (R:=R) x h1 (by omega) c1 bQ.1
  refine ⟨y,c2,bQ.tr eL,fun k=> ?_⟩
  rw [Of,e1,bh,bQ.mk',e2,(bQ.tr eL).mk']
theorem LV {n:Nat} (hn:bn<=n) (code:List UInt8) (hc:code.length<=cL):∃ m b s,Gv m/\∀ k:Mem->Int->Int->Option R,k6 n code k=k m b s:=by
 obtain ⟨c,h0,e0⟩:=Gq (R:=R) hn code hc
 obtain ⟨m,c1,hm,bQ,e1⟩:=yO (R:=R) hn c h0
 obtain ⟨o,c2,eL,e2⟩:=ee (R:=R) 4 (by decide) (by decide) c1 bQ.1
 have b2:=bQ.tr eL
 have Hs:∀ c',Cn c c'->∃ b s,∀ k:Mem->Int->Int->Option R,(iu 16 c' fun dC jZ=>iu 4 ⟨c.b,jZ.i,jZ.h⟩ fun j0 oX=>k m dC j0)=k m b s:=fun c' h=>by
  obtain ⟨b,c3,hY,e3⟩:=qp (R:=R) 16 (by decide) (by decide) c' h.1
  obtain ⟨s,c4,uW,e4⟩:=qp (R:=R) 4 (by decide) (by decide) c3 hY.1
  exact ⟨b,s,fun k=>by rw [e3,(h.tr hY).mk',e4]⟩
 by_cases hp:0<(m.ae.length:Int)
 ·cases o with
  | true =>
   obtain ⟨b,s,e⟩:=Hs c2 b2
   refine ⟨m,b,s,hm,fun k=> ?_⟩
   simp only [k6]
   rw [e0,e1,bQ.mk',e2,decide_eq_true hp]
   rw [bw,bw,bw,zM,Bool.and_false,bh,b2.mk',e]
  | false =>
   obtain ⟨r,c3,r1,r2,hY,e3⟩:=bu (R:=R) (m.ae.length:Int) hp (by have:=hm.dp; omega) c2 eL.1
   refine ⟨m,(m.ae.getD r.toNat aH).Block,(m.ae.getD r.toNat aH).Slot,hm,fun k=> ?_⟩
   simp only [k6]
   rw [e0,e1,bQ.mk',e2,decide_eq_true hp]
   rw [bw,bw,bw,zN,Bool.and_true,bw,b2.mk',e3,ai (by simp only [bc,zB,zD]; omega)]
 ·obtain ⟨b,s,e⟩:=Hs c1 bQ
  refine ⟨m,b,s,hm,fun k=> ?_⟩
  simp only [k6]
  rw [e0,e1,bQ.mk',e2,decide_eq_false hp]
  rw [bh,bh,bh,Bool.false_and,bh,bQ.mk',e]
theorem Hk {n:Nat} (hn:bn<=n) (code:List UInt8) (hc:code.length<=cL):∃ m i,Gv m/\∀ k:Mem->Int->Option R,iQ n code k=k m i:=by
 obtain ⟨c,h0,e0⟩:=Gq (R:=R) hn code hc
 obtain ⟨m,c1,hm,bQ,e1⟩:=yO (R:=R) hn c h0
 obtain ⟨o,c2,eL,e2⟩:=ee (R:=R) 4 (by decide) (by decide) c1 bQ.1
 have b2:=bQ.tr eL
 by_cases hp:0<(m.ae.length:Int)
 ·cases o with
  | true =>
   obtain ⟨i,c3,hY,e3⟩:=qp (R:=R) 9 (by decide) (by decide) c2 eL.1
   refine ⟨m,i,hm,fun k=> ?_⟩
   simp only [iQ]
   rw [e0,e1,bQ.mk',e2,decide_eq_true hp]
   rw [bw,bw,bw,zM,Bool.and_false,bh,b2.mk',e3]
  | false =>
   obtain ⟨r,c3,r1,r2,hY,e3⟩:=bu (R:=R) (m.ae.length:Int) hp (by have:=hm.dp; omega) c2 eL.1
   refine ⟨m,(m.ae.getD r.toNat aH).Id,hm,fun k=> ?_⟩
   simp only [iQ]
   rw [e0,e1,bQ.mk',e2,decide_eq_true hp]
   rw [bw,bw,bw,zN,Bool.and_true,bw,b2.mk',e3,ai (by simp only [bc,zB,zD]; omega)]
 ·obtain ⟨i,c3,hY,e3⟩:=qp (R:=R) 9 (by decide) (by decide) c1 bQ.1
  refine ⟨m,i,hm,fun k=> ?_⟩
  simp only [iQ]
  rw [e0,e1,bQ.mk',e2,decide_eq_false hp]
  rw [bh,bh,bh,Bool.false_and,bh,bQ.mk',e3]
theorem LC {n:Nat} (hn:bn<=n) (drop:Int) (l:List bE) (hl:l.length<=cL) (h:∀ d∈l,d.Id≠drop) (e:Bool->Option R) (q:Option R):gG drop l e q n 0=q:=by
 have xi:l.length<=2097152:=hl
 have:=iG (R:=R) (L:=fun m i=>gG drop l e q m i) (l:=l) aH (B:=0) (P:=fun d=> !(d.Id==drop)) (e:=e false) (q:=q) (by omega)
  (fun m i _ hi=>by
   simp only [gG,br,aJ,hi,zV,zE,bf,zC]
   cases ((l.getD i aH).Id==drop)<;>rfl) (fun m=>by simp [gG]) (aP hn (by omega))
 refine this.trans ?_
 rw [List.all_eq_true.2 (fun d hd=>by simp [h d hd])]; rfl
theorem UR (code:List UInt8) (f k:Bool->Option R) (h:code.length<=cL->f true=k true):(Ko code fun r=>bif r then k true else f true)=k true:=by
 simp only [Ko]
 by_cases hb:(1048576:Int)<(code.length:Int)
 ·rw [decide_eq_true hb,bw]
 ·rw [decide_eq_false hb,bh]
  exact h (by show code.length<=2097152; omega)
theorem EY {n:Nat} (hn:bn<=n) (code:List UInt8) (k:Bool->Option R):qP n code k=k true:=by
 simp only [qP]
 refine UR code (fun _=>_) k fun hc=> ?_
 obtain ⟨m,b,s,hm,e1⟩:=LV (R:=R) hn code hc
 obtain ⟨x,i,hx,e2⟩:=Hk (R:=R) hn code hc
 have JC:m.ae.length<=cL:=hm.sz.dp
 have Ww:eK (aQ x i):=⟨hx.sz.d,hx.sz.dy,Nat.le_trans (List.length_filter_le _ _) hx.sz.dp,fun d hd=>hx.sz.dep d (List.mem_filter.1 hd).1⟩
 rw [e1,Ai hn m JC,e2,Eh hn x hx.sz,LC hn i _ Ww.dp (fun d hd he=>by
  have:=(List.mem_filter.1 hd).2
  simp [he] at this)]
 rw [vZ hn m JC,Ai hn _ (by simp [cL]),lM hn x hx.sz]
 have hz:eY (⟨⟨⟨[],[]⟩,[],[]⟩,[],[],0⟩:Mem) b s=0:=rfl
 rw [beq_self_eq_true,hz]
 simp only [bw,Bool.true_and,show ((0:Int)==0)=true from rfl]
 rw [ID hn _ _ Ww]
 have:(⟨⟨⟨(aQ x i).aa.aq.ab,(aQ x i).aa.aq.bD⟩,(aQ x i).aa.ad,(aQ x i).aa.ab⟩,(aQ x i).ak,(aQ x i).ae,(aQ x i).Next⟩:Mem)=aQ x i:=rfl
 rw [this,Er,Bool.true_and]
 have:((aQ x i).ak.length:Int)=(x.ak.length:Int):=rfl
 rw [this,beq_self_eq_true]
end Go.Soft
namespace Go.Soft
open Go Go.ChangeShapes Go.WideShapes
theorem LX {P:Program} {fits:TypeId->Bool}:∀ {d:Nat} {e:TypeId} {count off n:Nat},rowAt P fits d e count off n=true->off<=count*P.cellsOf e
 | 0,_,_,_,_,h=>by simp [rowAt] at h
 | d+1,e,count,off,n,h=>by
  simp only [rowAt] at h
  by_cases hs:P.cellsOf e=0
  ·simp [hs] at h
  ·rw [if_neg hs] at h
   have hdm:=Nat.div_add_mod off (P.cellsOf e)
   have JC:=Nat.mod_lt off (Nat.pos_of_ne_zero hs)
   simp only [Bool.or_eq_true,zB,beq_iff_eq,zD] at h
   rcases h with ⟨⟨h1,h2⟩,_⟩ | ⟨h1,_⟩
   ·have:off/P.cellsOf e<=count:=by omega
    have:=zP (P.cellsOf e) this
    rw [Nat.mul_comm] at hdm; omega
   ·have:=zP (P.cellsOf e) (show off/P.cellsOf e+1<=count from h1)
    rw [Nat.add_mul] at this
    rw [Nat.mul_comm] at hdm; omega
theorem Bx {P:Program}:∀ {d:Nat} {e:TypeId} {count off:Nat} {u:TypeId} {n:Nat},liesAt P d e count off u n=true->off<=count*P.cellsOf e
 | 0,_,_,_,_,_,h=>by simp [liesAt] at h
 | d+1,e,count,off,u,n,h=>by
  simp only [liesAt,Bool.or_eq_true] at h
  rcases h with h | h
  ·exact LX h
  ·revert h; split
   ·exact Bx
   ·intro h; cases h
theorem LJ {P:Program} {W:Go.World} {r:Reach} {base:Nat} {a:Addr} {e:TypeId} {n:Nat} (h:W.has P r base a e n):a.spot=none/\∃ cur el fz,W.heap[a.block]? =some (.cells cur el fz)/\a.off<=cur.size:=by
 obtain ⟨_,hs,row,cells,FB,hl⟩:=h
 refine ⟨hs,?_⟩
 simp only [Go.World.shape?] at FB
 cases hb:W.heap[a.block]? with
 | none=>rw [hb] at FB; cases FB
 | some o =>
  rw [hb] at FB
  cases o with
  | cells c el fz =>
   simp only [zA,zG] at FB
   obtain ⟨rfl,rfl⟩:=FB
   refine ⟨c,el,fz,rfl,?_⟩
   have:=Bx hl
   have h2:=Nat.div_mul_le_self c.size (P.cellsOf el)
   omega
  | _=>cases FB
theorem UO {W:Go.World} {a:Addr} {l:List Value} (h:W.cells? 0 a 1=some l):∃ x0,l=[x0]/\W.cell? (a.add 0)=some x0:=by
 simp only [Go.World.cells?,Nat.zero_le,if_true] at h
 have e4:List.range 1=[0]:=rfl
 rw [e4] at h
 simp only [List.mapM_cons,List.mapM_nil,Option.bind_eq_bind,Option.bind_eq_some_iff,Option.pure_def,zA] at h
 obtain ⟨x0,h0,r0,rfl,rfl⟩:=h
 exact ⟨x0,rfl,h0⟩
section
variable {H:Type} {enc:TypeId×Value->H} {P:Program} {W:Go.World}
theorem I9 {t e:TypeId} (ht:P.underlying t=some (.slice e)) (he:P.underlying e=some (.int .u8)) (hc:P.cellsOf e=1)
  {base:Nat} {v:Value} {d:DataW H} {ps:List MemPlace} (xp:Value.okWide P W .any base t v) (h:DataW.Trod enc P W 0 (fun _=>true) true t v d ps) :
  ∃ (xs:List UInt8) (cs:List Value),vO (fun _=>True) W .byte xs v cs:=by
 classical
 obtain ⟨a0,len,cap,rfl⟩:=okWide_slice ht xp
 obtain ⟨fuel,hf⟩:=h
 rcases DataW.trod_slice ht hf with ⟨iX,_⟩ | ⟨a,len',cap',elems,rest,n,_,iX,_,_,hl,hm,hlen,MX,_,_⟩
 ·simp [Value.cells] at iX
  obtain ⟨rfl,rfl,rfl⟩:=iX
  exact ⟨[],[],⟨⟨rfl,.inl ⟨rfl,rfl⟩⟩,fun e c ct he=>by simp at he⟩⟩
 ·simp [Value.cells] at iX
  obtain ⟨rfl,rfl,rfl⟩:=iX
  have acg:W.has P .any base a e cap:=by
   simp only [Value.okWide,ht,Cell.okWide,Cell.ok] at xp
   exact xp.2.2
  obtain ⟨TN,cur,el,fz,hb,YN⟩:=LJ acg
  obtain ⟨g,off,spot⟩:=a
  simp only at TN hb YN; subst TN
  have node:∀ i,i<len->∃ x:UInt8,cur[off+i]? =some (.int .u8 (x.toNat:Int)):=by
   intro i hi
   have:=MX i hi
   rw [hc,List.getElem?_eq_getElem (by omega),Option.bind_eq_some_iff] at this
   obtain ⟨l,xi,hy⟩:=this
   obtain ⟨x0,rfl,c0⟩:=UO xi
   obtain ⟨z,hz,_,hw⟩:=DataW.trod_int he hy
   simp only [List.cons.injEq,and_true] at hz
   subst hz
   have hr:0<=z/\z<=255:=by
    simp only [Lit.wf,zB,zD] at hw
    exact ⟨hw.1,hw.2⟩
   refine ⟨UInt8.ofNat z.toNat,?_⟩
   have eG:W.cell? (Addr.add (Addr.add ⟨g,off,none⟩ (i*1)) 0)=cur[off+i]? :=by
    rw [jy,jy]
    simp only [Go.World.cell?,hb]
    rw [Nat.mul_one]; rfl
   rw [eG] at c0
   rw [c0]
   have:((UInt8.ofNat z.toNat).toNat:Int)=z:=by
    rw [UInt8.toNat_ofNat']; omega
   rw [this]
  let f:Nat->UInt8:=fun i=>if hi:i<len then Classical.choose (node i hi) else 0
  have QG:∀ i,i<len->cur[off+i]? =some (.int .u8 ((f i).toNat:Int)):=by
   intro i hi
   have e:f i=Classical.choose (node i hi):=by show (if hi:i<len then Classical.choose (node i hi) else 0)=_; rw [dif_pos hi]
   rw [e]; exact Classical.choose_spec (node i hi)
  let xs:=(List.range len).map f
  have QR:xs.length=len:=by simp [xs]
  have mi:off+len*1<=cur.size:=by
   by_cases QJ:len=0
   ·subst QJ; omega
   ·have:=QG (len-1) (by omega)
    have:=(Array.getElem?_eq_some_iff.1 this).1
    omega
  refine ⟨xs,(cur.toList.drop off).take (len*1),⟨⟨?_,.inr ⟨g,off,cap,cur,el,fz,by rw [QR],hb,trivial,by rw [QR]; exact hl,by rw [QR]; exact mi,by rw [QR]; rfl⟩⟩,fun i c ct hi de=> ?_⟩⟩
  ·rw [List.length_take,List.length_drop,QR]; simp only [sz,Array.length_toList]; omega
  ·rw [QR] at hi
   have SX:xs.getD i (ch .byte)=f i:=by simp [xs,hi]
   rw [SX] at de
   have d0:=QG i hi
   have mS:((cur.toList.drop off).take (len*1))[i*1]? =cur[off+i]? :=by
    rw [List.getElem?_take,if_pos (by omega),List.getElem?_drop]; simp
   simp only [cells] at de
   have bQ:c<1:=by have:=(zU.1 de).1; simpa using this
   match c,bQ,de with
   | 0,_,de =>
    simp at de; subst de
    exact ⟨_,mS.trans d0,rfl⟩
end
end Go.Soft
