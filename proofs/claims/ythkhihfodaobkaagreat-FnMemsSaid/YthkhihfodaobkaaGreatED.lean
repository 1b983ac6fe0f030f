import Derived.Test.YthkhihfodaobkaaGreatEC
set_option linter.constructorNameAsVariable false
set_option linter.unusedVariables false
set_option linter.unusedSimpArgs false
namespace Go.Soft
open Go
variable {R:Type}
def ur (c:et):Prop:=0<=c.i/\c.b.length<=cO
def Cn (c c':et):Prop:=ur c'/\c'.b=c.b
theorem Cn.mk' {c c':et} (h:Cn c c'):(⟨c.b,c'.i,c'.h⟩:et)=c':=by obtain ⟨_,h⟩:=h; cases c'; simp only at h; subst h; rfl
theorem Cn.tr {a b c:et} (h:Cn a b) (h':Cn b c):Cn a c:=⟨h'.1,h'.2.trans h.2⟩
theorem ET (a:Int):0<=BF .i64 a 255/\BF .i64 a 255<=255:=by
 have h:(BitVec.ofInt IntKind.i64.bits a &&& BitVec.ofInt IntKind.i64.bits 255).toNat<=255:=by
  rw [BitVec.toNat_and]
  exact Nat.le_trans Nat.and_le_right (by decide)
 simp only [BF,IntKind.wrap_i64]
 omega
def JJ (c:et):Int:=aC ((aC (c.h*6364136223846793005))+1442695040888963407)
def WG (c:et):Int:=UG .i64 (LL .i64 (JJ c) 33) (LL .i64 (JJ c) 45)
theorem nS (c:et) (hc:ur c):∃ x c',0<=x/\x<=255/\Cn c c'/\∀ k:Int->et->Option R,iP c k=k x c':=by
 obtain ⟨h1,h2⟩:=hc
 have Jy:c.b.length<=2097152:=h2
 by_cases h:c.i<(c.b.length:Int)
 ·refine ⟨BF .i64 (aC (BF .i64 (WG c) 255+aC ((c.b.getD c.i.toNat 0).toNat:Int))) 255,⟨c.b,aC (c.i+1),JJ c⟩,(ET _).1,(ET _).2,⟨⟨?_,h2⟩,rfl⟩,fun k=> ?_⟩
  ·show 0<=aC (c.i+1)
   rw [cq (by omega) (by omega)]; omega
  ·simp only [iP]
   rw [decide_eq_true h,bK,aj]
   ·rfl
   ·simp only [aZ,zB,zD]; omega
 ·refine ⟨BF .i64 (WG c) 255,⟨c.b,c.i,JJ c⟩,(ET _).1,(ET _).2,⟨⟨h1,h2⟩,rfl⟩,fun k=> ?_⟩
  simp only [iP]
  rw [decide_eq_false h,br]
  rfl
theorem bz (n:Int) (hn:0<n) (h2:n<=4611686018427387904) (c:et) (hc:ur c):∃ x c',0<=x/\x<n/\Cn c c'/\∀ k:Int->et->Option R,aM n c k=k x c':=by
 by_cases h:n<=256
 ·obtain ⟨x,c',x1,x2,lH,e⟩:=nS (R:=R) c hc
  refine ⟨x.tmod n,c',Int.tmod_nonneg _ x1,?_,lH,fun k=> ?_⟩
  ·exact Int.tmod_lt_of_pos _ hn
  ·simp only [aM]
   rw [decide_eq_false (by omega),br,decide_eq_true h,bK,e,lH.mk',aj]
   simp; omega
 ·obtain ⟨x1,c1,_,_,cf,e1⟩:=nS (R:=R) c hc
  obtain ⟨x2,c2,_,_,fJ,e2⟩:=nS (R:=R) c1 cf.1
  obtain ⟨x3,c3,_,_,ja,e3⟩:=nS (R:=R) c2 fJ.1
  obtain ⟨x4,c4,_,_,vJ,e4⟩:=nS (R:=R) c3 ja.1
  have b2:=cf.tr fJ
  have b3:=b2.tr ja
  have b4:=b3.tr vJ
  refine ⟨(aC ((aC ((aC ((aC (x1*16777216))+(aC (x2*65536))))+(aC (x3*256))))+x4)).tmod n,c4,?_,Int.tmod_lt_of_pos _ hn,b4,fun k=> ?_⟩
  ·refine Int.tmod_nonneg _ ?_
   rw [cq (n:=x1*16777216) (by omega) (by omega),cq (n:=x2*65536) (by omega) (by omega),cq (n:=x3*256) (by omega) (by omega),cq (n:=x1*16777216+x2*65536) (by omega) (by omega),cq (n:=x1*16777216+x2*65536+x3*256) (by omega) (by omega),cq (by omega) (by omega)]
   omega
  ·simp only [aM]
   rw [decide_eq_false (by omega),br,decide_eq_false h,br,e1,cf.mk',e2,b2.mk',e3,b3.mk',e4,b4.mk',aj]
   simp; omega
theorem aV {α:Type} {l:List α} {i:Nat} (d:α) (h:i<l.length):l.getD i d∈l:=by
 have:l.getD i d=l[i]:=by simp [zT,h]
 rw [this]; exact List.getElem_mem _
theorem fq (l:List Int) (hl:0<l.length) (h2:l.length<=cO) (c:et) (hc:ur c):∃ x c',x∈l/\Cn c c'/\∀ k:Int->et->Option R,dC l c k=k x c':=by
 have h2:l.length<=2097152:=h2
 obtain ⟨x,c',x1,x2,lH,e⟩:=bz (R:=R) (l.length:Int) (by omega) (by omega) c hc
 refine ⟨l.getD x.toNat 0,c',aV 0 (by omega),lH,fun k=> ?_⟩
 simp only [dC]
 rw [e,aj,lH.mk']
 simp only [aZ,zB,zD]; omega
theorem tO (l:List ByteArray) (hl:0<l.length) (h2:l.length<=cO) (c:et) (hc:ur c):∃ x c',x∈l/\Cn c c'/\∀ k:ByteArray->et->Option R,fN l c k=k x c':=by
 have h2:l.length<=2097152:=h2
 obtain ⟨x,c',x1,x2,lH,e⟩:=bz (R:=R) (l.length:Int) (by omega) (by omega) c hc
 refine ⟨l.getD x.toNat eS,c',aV eS (by omega),lH,fun k=> ?_⟩
 simp only [fN]
 rw [e,aj,lH.mk']
 simp only [aZ,zB,zD]; omega
def pD:List ByteArray:=[S [97],S [98],S [99],S [100,100],S [101,49]]
theorem Dn (c:et) (hc:ur c):∃ x c',x∈pD/\Cn c c'/\∀ k:ByteArray->et->Option R,qa c k=k x c':=by
 obtain ⟨x,c',x1,lH,e⟩:=tO (R:=R) pD (by decide) (by decide) c hc
 refine ⟨x,c',x1,lH,fun k=> ?_⟩
 simp only [qa]
 exact (e _).trans (by rw [lH.mk'])
theorem fK (n:Int) (hn:0<n) (h2:n<=4611686018427387904) (c:et) (hc:ur c):∃ (x:Bool) (c':et),Cn c c'/\∀ k:Bool->et->Option R,cR n c k=k x c':=by
 obtain ⟨x,c',x1,x2,lH,e⟩:=bz (R:=R) n hn h2 c hc
 refine ⟨x==0,c',lH,fun k=> ?_⟩
 simp only [cR]
 rw [e,lH.mk']
theorem aO {n k:Nat} (hn:bq<=n) (h:k<100000000):k<n:=Nat.lt_of_lt_of_le h hn
theorem cG (a b:Nat):((a:Int)==(b:Int))=(a==b):=by
 by_cases h:a=b
 ·subst h; simp
 ·rw [beq_eq_false_iff_ne.2 h,beq_eq_false_iff_ne.2 (by omega)]
theorem Ge (s:ByteArray) (i:Nat):bt s i=(s.data.toList.getD i 0).toNat:=by
 simp [bt,Array.getD_eq_getD_getElem?,zT]
theorem size_eq (s:ByteArray):s.size=s.data.toList.length:=rfl
theorem eZ {α:Type} {L:Nat->Int->Option R} {l:List α} (d:α) {B:Nat} {P:α->Bool} {e q:Option R} (hl:l.length<=4611686018427387904)
  (hs:∀ m i,B<m->i<l.length->L (m+1) (i:Int)=bif P (l.getD i d) then L m (aC ((i:Int)+1)) else e) (hq:∀ m,L (m+1) (l.length:Int)=q)
  {n:Nat} (hn:l.length+B<n):L n 0=bif l.all P then q else e:=by
 have:=j9 (R:=R) hl hs hq l.length n 0 (by omega) hn
 rw [Dj l d P] at this
 exact this
def Tg (x:UInt8):Bool:=(decide (97<=x.toNat)&&decide (x.toNat<=122))||(decide (48<=x.toNat)&&decide (x.toNat<=57))
def bH (s:ByteArray):Bool:=s.data.toList.all Tg&&within s.size 1 6
theorem tU {n:Nat} (hn:bq<=n) (s:ByteArray) (hs:s.size<=cO) (k:Bool->Option R):j7 n s k=k (bH s):=by
 simp only [j7,iX,bH]
 have Fu:s.data.toList.length<=2097152:=hs
 have:=eZ (R:=R) (L:=kR s (fun x=>k x) (k (within s.size 1 6))) (l:=s.data.toList) 0 (B:=0) (P:=Tg) (e:=k false) (q:=k (within s.size 1 6)) (by omega)
  (fun m i _ hi=>by
   have rT:i<s.size:=hi
   simp only [kR,bk,aG,rT,zV,Bool.or_true,bf,zE,zC,Ge,Tg]
   generalize s.data.toList.getD i 0=x
   have e1:decide (((x.toNat:Nat):Int)<97)= !decide (97<=x.toNat):=by
    by_cases h:97<=x.toNat<;>simp [h]<;>omega
   have e2:decide ((122:Int)<((x.toNat:Nat):Int))= !decide (x.toNat<=122):=by
    by_cases h:x.toNat<=122<;>simp [h]<;>omega
   have e3:decide (((x.toNat:Nat):Int)<48)= !decide (48<=x.toNat):=by
    by_cases h:48<=x.toNat<;>simp [h]<;>omega
   have e4:decide ((57:Int)<((x.toNat:Nat):Int))= !decide (x.toNat<=57):=by
    by_cases h:x.toNat<=57<;>simp [h]<;>omega
   rw [e1,e2,e3,e4]
   cases decide (97<=x.toNat)<;>cases decide (x.toNat<=122)<;>cases decide (48<=x.toNat)<;>cases decide (x.toNat<=57)<;>rfl)
  (fun m=>by
   have:(s.data.toList.length:Int)=(s.size:Int):=rfl
   simp [kR,this]) (n:=n) (aO hn (by omega))
 refine this.trans ?_
 rw [JY]; congr 1
 cases List.all s.data.toList Tg<;>rfl
theorem tC {L:Nat->Int->Option R} {len B:Nat} {p:Nat->Bool} {e:Int->Option R} {q:Option R} (hl:len<=4611686018427387904)
  (hs:∀ m i,B<m->i<len->L (m+1) (i:Int)=bif p i then e i else L m (aC ((i:Int)+1))) (hq:∀ m,L (m+1) (len:Int)=q) :
  ∀ (k m i:Nat),i+k=len->k+B<m->L m (i:Int)=match (List.range' i k).find? p with | some j=>e j | none=>q
 | 0,0,i,h1,h2=>by omega
 | 0,m+1,i,h1,h2=>by
  have:i=len:=by omega
  subst this; rw [hq]; rfl
 | k+1,0,i,h1,h2=>by omega
 | k+1,m+1,i,h1,h2=>by
  rw [hs m i (by omega) (by omega),bM (by omega),List.range'_succ,List.find?_cons]
  cases hp:p i with
  | true=>rfl
  | false=>exact tC hl hs hq k m (i+1) (by omega) (by omega)
def bE {α:Type} (P:α->Bool):List α->Int
 | []=> -1
 | x::l=>bif P x then 0 else match bE P l with | .ofNat j=> .ofNat (j+1) | _=> -1
theorem vh {α:Type} (P:α->Bool) (d:α) (l:List α):∀ (s:List α) (i:Nat),s=l.drop i->i<=l.length ->
  (match (List.range' i (l.length-i)).find? (fun j=>P (l.getD j d)) with | some j=>(j:Int) | none=> -1)=match bE P s with | .ofNat j=>((i+j:Nat):Int) | _=> -1
 | [],i,h,hi=>by
  have:l.length<=i:=by
   have:=congrArg List.length h; simp at this; omega
  rw [show l.length-i=0 by omega]; rfl
 | x::s,i,h,hi=>by
  have fP:i<l.length:=by
   have:=congrArg List.length h; simp at this; omega
  have hx:l.getD i d=x:=by
   have:=congrArg (fun l=>l[0]?) h
   simp only [List.getElem?_cons_zero,List.getElem?_drop,Nat.add_zero] at this
   simp [zT,← this]
  have hs:s=l.drop (i+1):=by
   have:=congrArg List.tail h
   simpa [List.tail_drop] using this
  obtain ⟨k,hk⟩:∃ k,l.length-i=k+1:=⟨l.length-i-1,by omega⟩
  rw [hk,List.range'_succ,List.find?_cons,hx]
  cases hp:P x with
  | true=>simp [bE,hp]
  | false =>
   have ih:=vh P d l s (i+1) hs (by omega)
   rw [show l.length-(i+1)=k by omega] at ih
   simp only [bE,hp,zF]
   rw [ih]
   cases KN:bE P s with
   | ofNat j=>simp; omega
   | negSucc j=>rfl
def dE (b:Block) (name:ByteArray):Int:=bif name==eS then -1 else bE (fun s=>s.Name==name) b.ah
theorem gF {α:Type} (P:α->Bool):∀ l:List α,bE P l= -1\/∃ j:Nat,bE P l=j/\j<l.length
 | []=> .inl rfl
 | x::l=>by
  simp only [bE]
  cases P x with
  | true=>exact .inr ⟨0,rfl,by simp⟩
  | false =>
   rcases gF P l with h | ⟨j,h,hj⟩
   ·rw [h]; exact .inl rfl
   ·rw [h]; exact .inr ⟨j+1,rfl,by simp; omega⟩
theorem DA {n:Nat} (hn:bq<=n) (b:Block) (hb:b.ah.length<=cO) (name:ByteArray) (k:Int->Option R):p8 n b name k=k (dE b name):=by
 simp only [p8,dE]
 have JE:b.ah.length<=2097152:=hb
 have:=tC (R:=R) (L:=kQ name b.ah (fun x=>k x) (k (-1))) (len:=b.ah.length) (B:=0) (p:=fun i=> !(name==eS)&&((b.ah.getD i aq).Name==name)) (e:=fun i=>k i) (q:=k (-1)) (by omega)
  (fun m i _ hi=>by
   simp only [kQ,bk,aG,hi,zV,Bool.or_true,bf,zE,zC]) (fun m=>by simp [kQ]) b.ah.length n 0 (by omega) (aO hn (by omega))
 refine this.trans ?_
 cases PD:name==eS with
 | true =>
  have:(List.range' 0 b.ah.length).find? (fun i=> !true&&((b.ah.getD i aq).Name==name))=none:=by
   rw [List.find?_eq_none]; intro x _; simp
  rw [this]; rfl
 | false =>
  have h2:=vh (fun s:Slot=>s.Name==name) aq b.ah b.ah 0 rfl (by omega)
  simp only [Nat.sub_zero,Nat.zero_add] at h2
  simp only [zN,Bool.true_and,zF]
  have h3:(match bE (fun s:Slot=>s.Name==name) b.ah with | .ofNat j=>((j:Nat):Int) | _=> -1)=bE (fun s:Slot=>s.Name==name) b.ah:=by
   rcases gF (fun s:Slot=>s.Name==name) b.ah with h | ⟨j,h,_⟩<;>rw [h]<;>rfl
  rw [← h3,← h2]
  cases List.find? _ _<;>rfl
def rG (l:List Slot) (i:Nat):Bool:=((l.getD i aq).Name==eS&&(l.getD i aq).Ino==0)||((bH (l.getD i aq).Name&&within (l.getD i aq).Ino 1 8)&&(List.range' 0 i).all fun k=> !((l.getD k aq).Name==(l.getD i aq).Name))
def xV (l:List Slot):Bool:=(List.range' 0 4).all (rG l)
def bw (b:Block):Bool:=bif b.bZ then (b.ah.length==4&&b.Text==eS)&&xV b.ah else b.ah.length==0&&decide (b.Text.size<=16)
def A2 (s:Slot):Prop:=s.Name.size<=cO
def tB (b:Block):Prop:=b.ah.length<=cO/\b.Text.size<=cO/\∀ s∈b.ah,A2 s
def z6 (x:aR):Prop:=x.ax.length<=cO
structure iw (d:aa):Prop where
 bb:d.au.ab.length<=cO
 bi:d.au.bB.length<=cO
 di:d.ad.length<=cO
 db:d.ab.length<=cO
 ino:∀ x∈d.ad,z6 x
 oO:∀ b∈d.ab,tB b
theorem AQ {n:Nat} (hn:bq<=n) (b:Block) (hb:tB b) (k:Bool->Option R):qb n b k=k (bw b):=by
 simp only [qb,bw]
 cases hd:b.bZ with
 | false =>
  simp only [zN,zE,zF]
  congr 2
  ·exact cG b.ah.length 0
  ·exact decide_eq_decide.2 (by omega)
 | true =>
  simp only [zM,zE,zF]
  rw [show (4:Int)=((4:Nat):Int) from rfl,cG]
  cases hl:b.ah.length==4 with
  | false=>rfl
  | true =>
   cases ht:b.Text==eS with
   | false=>rfl
   | true =>
    have VE:b.ah.length=4:=by simpa using hl
    simp only [zM,Bool.or_false,zF,Bool.true_and]
    have:=j9 (R:=R) (L:=ft n b.ah (fun x=>k x) (k true)) (len:=4) (B:=10) (p:=rG b.ah) (e:=k false) (q:=k true) (by omega)
     (fun m i hm hi=>by
      have hn4:(b.ah.getD i aq).Name.size<=cO:=hb.2.2 _ (aV aq (by omega))
      simp only [ft,iX,aG,VE,zC,rG]
      rw [show decide ((i:Int)<4)=true by simp; omega,show decide (i<4)=true by simp; omega]
      simp only [zE,bf]
      cases h1:(b.ah.getD i aq).Name==eS&&(b.ah.getD i aq).Ino==0 with
      | true=>rfl
      | false =>
       simp only [zF,Bool.false_or]
       rw [tU hn _ hn4]
       cases bH (b.ah.getD i aq).Name with
       | false=>rfl
       | true =>
        cases within (b.ah.getD i aq).Ino 1 8 with
        | false=>rfl
        | true =>
         simp only [zM,zN,zE,Bool.or_false,zF,Bool.true_and]
         have h2:=j9 (R:=R) (L:=iG (i:Int) (b.ah.getD i aq).Name b.ah (fun x=>k x) (ft n b.ah (fun x=>k x) (k true) m (aC ((i:Int)+1)))) (len:=i) (B:=0)
          (p:=fun j=> !((b.ah.getD j aq).Name==(b.ah.getD i aq).Name)) (e:=k false) (q:=ft n b.ah (fun x=>k x) (k true) m (aC ((i:Int)+1))) (by omega)
          (fun m j _ hj=>by
           simp only [iG,bk,aG,hj,zV,VE,zC,zE]
           rw [show decide (j<4)=true by simp; omega,bf]
           cases (b.ah.getD j aq).Name==(b.ah.getD i aq).Name<;>rfl) (fun m=>by simp [iG]) i m 0 (by omega) (by omega)
         exact h2) (fun m=>by simp [ft]) 4 n 0 rfl (aO hn (by omega))
    refine this.trans ?_
    rw [JY]; congr 1
    show _=xV b.ah
    simp only [xV]
    cases List.all _ _<;>rfl
def pM (b:au):Bool:=b.ab.length==16&&b.bB.length==8
theorem C4 (b:au) (k:Bool->Option R):sI b k=k (pM b):=by
 simp only [sI,pM]
 rw [show (16:Int)=((16:Nat):Int) from rfl,show (8:Int)=((8:Nat):Int) from rfl,cG,cG]
def ll (d:aa):Bool:=(pM d.au&&(d.ad.length==8&&d.ab.length==16))&&(d.ad.all bj&&d.ab.all bw)
theorem xW {n:Nat} (hn:bq<=n) (d:aa) (hd:iw d) (k:Bool->Option R):p6 n d k=k (ll d):=by
 simp only [p6,ll,C4]
 rw [show (16:Int)=((16:Nat):Int) from rfl,show (8:Int)=((8:Nat):Int) from rfl,cG,cG]
 have l1:d.ad.length<=2097152:=hd.di
 have l2:d.ab.length<=2097152:=hd.db
 cases pM d.au<;>cases d.ad.length==8<;>cases d.ab.length==16<;>try rfl
 simp only [zM,Bool.or_false,zF,Bool.true_and]
 have h2:=eZ (R:=R) (L:=g6 n d.ab (fun x=>k x) (k true)) (l:=d.ab) aA (B:=0) (P:=bw) (e:=k false) (q:=k true) (by omega)
  (fun m i _ hi=>by
   simp only [g6,bk,aG,hi,zV,bf,zE,zC]
   rw [AQ hn _ (hd.oO _ (aV aA hi))]
   cases bw (d.ab.getD i aA)<;>rfl) (fun m=>by simp [g6]) (n:=n) (aO hn (by omega))
 have h1:=eZ (R:=R) (L:=kI n d.ad (fun x=>k x) (g6 n d.ab (fun x=>k x) (k true) n 0)) (l:=d.ad) ay (B:=0) (P:=bj) (e:=k false) (q:=g6 n d.ab (fun x=>k x) (k true) n 0) (by omega)
  (fun m i _ hi=>by
   simp only [kI,bk,aG,hi,zV,bf,zE,zC]
   rw [u9 hn]
   cases bj (d.ad.getD i ay)<;>rfl) (fun m=>by simp [kI]) (n:=n) (aO hn (by omega))
 refine h1.trans ?_
 rw [h2]
 cases List.all d.ad bj<;>cases List.all d.ab bw<;>rfl
theorem cQ {α:Type} {l:List α} {i:Nat} (d:α) (h:i<l.length):l.drop i=l.getD i d::l.drop (i+1):=by
 rw [List.drop_eq_getElem_cons h]; simp [zT,h]
theorem ua {α β:Type} {L:Nat->Int->List β->Option R} {l:List α} (d:α) {f:α->List β} {B C:Nat} {q:List β->Option R} (hl:l.length<=4611686018427387904) (hC:∀ x∈l,(f x).length<=C)
  (hs:∀ m i acc,B<m->i<l.length->acc.length<=C*i->L (m+1) (i:Int) acc=L m (aC ((i:Int)+1)) (acc++f (l.getD i d))) (hq:∀ m acc,L (m+1) (l.length:Int) acc=q acc) :
  ∀ (k m i:Nat) (acc:List β),i+k=l.length->k+B<m->acc.length<=C*i->L m (i:Int) acc=q (acc++(l.drop i).flatMap f)
 | 0,0,i,acc,h1,h2,h3=>by omega
 | 0,m+1,i,acc,h1,h2,h3=>by
  have:i=l.length:=by omega
  subst this; rw [hq]; simp
 | k+1,0,i,acc,h1,h2,h3=>by omega
 | k+1,m+1,i,acc,h1,h2,h3=>by
  have hi:i<l.length:=by omega
  have hx:=hC _ (aV d hi)
  rw [hs m i acc (by omega) hi h3,bM (by omega),ua d hl hC hs hq k m (i+1) _ (by omega) (by omega) (by rw [zK,Nat.mul_add]; omega),cQ d hi,List.flatMap_cons,List.append_assoc]
theorem pY {α β:Type} {L:Nat->Int->List β->Option R} {l:List α} (d:α) {f:α->β} {B:Nat} {q:List β->Option R} (hl:l.length<=4611686018427387904)
  (hs:∀ m i acc,B<m->i<l.length->acc.length<=i->L (m+1) (i:Int) acc=L m (aC ((i:Int)+1)) (acc++[f (l.getD i d)])) (hq:∀ m acc,L (m+1) (l.length:Int) acc=q acc)
  {n:Nat} (hn:l.length+B<n):L n 0 []=q (l.map f):=by
 have:=ua (R:=R) (l:=l) d (f:=fun x=>[f x]) (C:=1) hl (fun x _=>by simp) (fun m i acc h1 h2 h3=>hs m i acc h1 h2 (by omega)) hq l.length n 0 [] (by omega) hn (by simp)
 rw [List.drop_zero,List.nil_append] at this
 refine this.trans ?_
 congr 1
 exact List.map_eq_flatMap.symm
theorem cm {α:Type} {l:List α} {i:Nat} {x:List α} (h:l.length<=i) (hi:i<=2097152) (hx:x.length<=1099507433472):bg (l++x)=true:=cn (by rw [zK]; omega)
theorem I6 (b:au) (h1:b.ab.length<=cO) (h2:b.bB.length<=cO) (k:au->Option R):ui b k=k b:=by
 have h1:b.ab.length<=2097152:=h1
 have h2:b.bB.length<=2097152:=h2
 simp only [ui,List.nil_append]
 rw [aj (cn (by omega)),aj (cn (by omega))]
theorem vp (x:aR) (h:z6 x) (k:aR->Option R):nX x k=k x:=by
 have h:x.ax.length<=2097152:=h
 simp only [nX,List.nil_append]
 rw [aj (cn (by omega))]
theorem uY (b:Block) (h:b.ah.length<=cO) (k:Block->Option R):mb b k=k b:=by
 have h:b.ah.length<=2097152:=h
 simp only [mb,List.nil_append]
 rw [aj (cn (by omega))]
theorem lR {n:Nat} (hn:bq<=n) (d:aa) (hd:iw d) (k:aa->Option R):iF n d k=k d:=by
 have l1:d.ad.length<=2097152:=hd.di
 have l2:d.ab.length<=2097152:=hd.db
 simp only [iF]
 rw [I6 _ hd.bb hd.bi]
 have h2:=pY (R:=R) (L:=gz d.ab (fun eF=>k ⟨d.au,d.ad,eF⟩)) (l:=d.ab) aA (f:=id) (B:=0) (q:=fun eF=>k ⟨d.au,d.ad,eF⟩) (by omega)
  (fun m i acc _ hi ha=>by
   simp only [gz,bk,aG,hi,zV,bf,zE,zC]
   rw [uY _ (hd.oO _ (aV aA hi)).1,aj (cm ha (by omega) (by simp))]; rfl) (fun m acc=>by simp only [gz,Int.lt_irrefl,decide_false,zF]) (n:=n) (aO hn (by omega))
 have h1:=pY (R:=R) (L:=jN d.ad (fun v=>gz d.ab (fun eF=>k ⟨d.au,v,eF⟩) n 0 [])) (l:=d.ad) ay (f:=id) (B:=0) (q:=fun v=>gz d.ab (fun eF=>k ⟨d.au,v,eF⟩) n 0 []) (by omega)
  (fun m i acc _ hi ha=>by
   simp only [jN,bk,aG,hi,zV,bf,zE,zC]
   rw [vp _ (hd.ino _ (aV ay hi)),aj (cm ha (by omega) (by simp))]; rfl) (fun m acc=>by simp only [jN,Int.lt_irrefl,decide_false,zF]) (n:=n) (aO hn (by omega))
 rw [List.map_id] at h1 h2
 exact h1.trans h2
def ru (d:bO):Prop:=d.Name.size<=cO/\d.ab.length<=cO
structure eU (m:Mem):Prop where
 d:iw m.aa
 dy:m.an.length<=cO
 dp:m.ae.length<=cO
 dep:∀ d∈m.ae,ru d
theorem dY {n:Nat} (hn:bq<=n) (x:Mem) (hx:eU x) (k:Mem->Option R):dw n x k=k x:=by
 have l1:x.an.length<=2097152:=hx.dy
 have l2:x.ae.length<=2097152:=hx.dp
 simp only [dw,List.nil_append]
 rw [lR hn _ hx.d,aj (cn (by omega))]
 have h2:=pY (R:=R) (L:=jR x.ae (fun v=>k ⟨x.aa,x.an,v,x.Next⟩)) (l:=x.ae) aT (f:=id) (B:=0) (q:=fun v=>k ⟨x.aa,x.an,v,x.Next⟩) (by omega)
  (fun m i acc _ hi ha=>by
   have hb:(x.ae.getD i aT).ab.length<=2097152:=(hx.dep _ (aV aT hi)).2
   simp only [jR,bk,aG,hi,zV,bf,zE,zC,List.nil_append]
   rw [aj (cn (by omega)),aj (cm ha (by omega) (by simp))]; rfl) (fun m acc=>by simp only [jR,Int.lt_irrefl,decide_false,zF]) (n:=n) (aO hn (by omega))
 rw [List.map_id] at h2
 exact h2
def fk:aa:=⟨⟨List.replicate 16 false,(List.replicate 8 false).set 0 true⟩,(List.replicate 8 (aY 0)).set 0 (aY 2),List.replicate 16 aA⟩
theorem qA {n:Nat} (hn:bq<=n) (k:aa->Option R):nQ n k=k fk:=by
 simp only [nQ,lS]
 rw [aj (by rfl)]
 have h2:=pY (R:=R) (L:=jU (fun v=>dW 2 fun i=>aJ (aZ 0 v.length) (k ⟨⟨List.replicate 16 false,(List.replicate 8 false).set 0 true⟩,v.set 0 i,List.replicate 16 aA⟩))) (l:=List.replicate 8 ()) () (f:=fun _=>aY 0) (B:=0) (q:=fun v=>dW 2 fun i=>aJ (aZ 0 v.length) (k ⟨⟨List.replicate 16 false,(List.replicate 8 false).set 0 true⟩,v.set 0 i,List.replicate 16 aA⟩)) (by decide)
  (fun m i acc _ hi ha=>by
   have hi:i<8:=by simpa using hi
   simp only [jU,jf]
   rw [show decide ((i:Int)<8)=true by simp; omega,bK,aj (cm ha (by omega) (by simp))]) (fun m acc=>by simp [jU]) (n:=n) (aO hn (by decide))
 refine h2.trans ?_
 rw [jf,aj (by rfl)]
 rfl
theorem yj (k:Block->Option R):sa k=k ⟨true,List.replicate 4 aq,eS⟩:=rfl
def lV (d:aa):Mem:=⟨d,List.replicate 21 false,[],1⟩
theorem Ly {n:Nat} (hn:bq<=n) (d:aa) (hd:iw d) (k:Mem->Option R):xc n d k=k (lV d):=by
 simp only [xc]
 rw [lR hn d hd]; rfl
theorem OZ (n:Int):0<=IntKind.u8.wrap n/\IntKind.u8.wrap n<256:=by
 simp only [IntKind.wrap,IntKind.signed,IntKind.bits]
 simp
 omega
theorem nP (n:Int):j5 (IntKind.u8.wrap n)=true:=by
 have:=OZ n
 simp only [j5,zB,zD]; exact this
def M8 (n:Int):UInt8:=UInt8.ofNat (IntKind.u8.wrap n).toNat
theorem wE (n:Int):UInt8.ofNat (IntKind.u8.wrap n).toNat=M8 n:=rfl
def D3:List Bool->Nat->Nat
 | [],_=>0
 | b::l,w=>(bif b then w else 0)+D3 l (2*w)
def qx (l:List Bool):Int:=D3 l 1
theorem qg (l:List Bool) (hl:l.length<=60) (q:Int->Option R):∀ (k m i x w:Nat),i+k=l.length->k<m->x<w->w*2 ^ k<=1152921504606846976 ->
  ic l q m (x:Int) (w:Int) (i:Int)=q ((x+D3 (l.drop i) w:Nat):Int)
 | 0,0,i,x,w,h1,h2,h0,h3=>by omega
 | 0,m+1,i,x,w,h1,h2,h0,h3=>by
  have:i=l.length:=by omega
  subst this
  simp [ic,D3]
 | k+1,0,i,x,w,h1,h2,h0,h3=>by omega
 | k+1,m+1,i,x,w,h1,h2,h0,h3=>by
  have hi:i<l.length:=by omega
  have hp:0<2 ^ k:=Nat.pos_of_ne_zero (by simp)
  have hw:w*2 ^ (k+1)=2*w*2 ^ k:=by rw [Nat.pow_succ,Nat.mul_comm 2 w,Nat.mul_assoc,Nat.mul_comm 2]
  have hw2:2*w<=2*w*2 ^ k:=Nat.le_mul_of_pos_right _ hp
  simp only [ic,bk,aG,hi,zV,zE,bf,zC]
  rw [cQ false hi,show (2:Int)*(w:Int)=((2*w:Nat):Int) by omega,ee (by omega),bM (by omega),← Int.natCast_add,ee (by omega)]
  cases hb:l.getD i false with
  | true =>
   simp only [zE,D3]
   rw [qg l hl q k m (i+1) (x+w) (2*w) (by omega) (by omega) (by omega) (by omega),← Nat.add_assoc]
  | false =>
   simp only [zF,D3,Nat.zero_add]
   rw [qg l hl q k m (i+1) x (2*w) (by omega) (by omega) (by omega) (by omega)]
theorem ve {n:Nat} (hn:bq<=n) (l:List Bool) (hl:l.length<=60) (k:Int->Option R):nV n l k=k (IntKind.u8.wrap (qx l)):=by
 simp only [nV]
 have hp:(2:Nat) ^ l.length<=2 ^ 60:=Nat.pow_le_pow_right (by decide) hl
 have h2:(2:Nat) ^ 60=1152921504606846976:=rfl
 have:=qg (R:=R) l hl (fun xn=>k (IntKind.u8.wrap xn)) l.length n 0 0 1 (by omega) (aO hn (by omega)) (by omega) (by omega)
 rw [List.drop_zero,Nat.zero_add] at this
 exact this
def Cb (b:au):ByteArray:=bif pM b then yW [M8 (qx (b.ab.take 8)),M8 (qx (b.ab.drop 8)),M8 (qx b.bB)] else eS
theorem F4 {n:Nat} (hn:bq<=n) (b:au) (k:ByteArray->Bool->Option R):qh n b k=k (Cb b) (pM b):=by
 simp only [qh,C4,Cb]
 cases hb:pM b with
 | false=>rfl
 | true =>
  simp only [pM,zB,beq_iff_eq] at hb
  obtain ⟨h1,h2⟩:=hb
  simp only [zM,zF,zE]
  rw [aj (by simp [xf,h1]),ve hn _ (by simp [sub]; omega),aj (by simp [xf,h1]),ve hn _ (by simp [sub]; omega),ve hn _ (by omega)]
  simp only [wE,nP,Bool.and_true,bf]
  have e1:sub b.ab 0 8=b.ab.take 8:=by simp [sub]
  have e2:sub b.ab 8 (b.ab.length-8)=b.ab.drop 8:=by
   simp only [sub]; rw [List.take_of_length_le (by simp)]
  rw [e1,e2]
def nM (x:aR):ByteArray:=bif bj x then yW [M8 x.Kind,M8 x.Links,M8 (x.ax.getD 0 0),M8 (x.ax.getD 1 0)] else eS
theorem js {x:aR} (h:bj x=true):x.ax.length=2:=by
 simp only [bj,zB,beq_iff_eq] at h
 exact h.2.2.1
theorem wO {n:Nat} (hn:bq<=n) (x:aR) (k:ByteArray->Bool->Option R):mE n x k=k (nM x) (bj x):=by
 simp only [mE,u9 hn,nM]
 cases hb:bj x with
 | false=>rfl
 | true =>
  have hl:=js hb
  simp only [zM,zF,zE,wE,nP,Bool.and_true,bf]
  rw [aj (by simp [aZ,hl]),aj (by simp [aZ,hl])]
def wN:Nat->Nat->List UInt8×Nat
 | 0,x=>([],x)
 | f+1,x=>bif decide (127<x) then (M8 (x % 128+128:Nat)::(wN f (x/128)).1,(wN f (x/128)).2) else ([],x)
def IM (n:Nat):ByteArray:=yW ((wN 9 n).1++[M8 (wN 9 n).2])
theorem Am:∀ f x,(wN f x).1.length<=f
 | 0,x=>by simp [wN]
 | f+1,x=>by
  simp only [wN]
  cases decide (127<x) with
  | true=>simp only [zE,zR]; have:=Am f (x/128); omega
  | false=>simp
theorem Iw {f x:Nat} (h:x<=127):wN f x=([],x):=by
 cases f with
 | zero=>rfl
 | succ f=>simp only [wN]; rw [decide_eq_false (by omega)]; rfl
theorem yS (Q:Int->List UInt8->Option R):∀ (f x m:Nat) (acc:List UInt8),x<128 ^ (f+1)->x<=4611686018427387904->f<m->acc.length+f<=100 ->
  mF Q m (x:Int) acc=Q ((wN f x).2:Int) (acc++(wN f x).1)
 | f,x,0,acc,h1,hb,h2,h3=>by omega
 | f,x,m+1,acc,h1,hb,h2,h3=>by
  simp only [mF,nP,Bool.and_true,bf]
  have hd:decide ((127:Int)<(x:Int))=decide (127<x):=decide_eq_decide.2 (by omega)
  rw [hd]
  by_cases hx:127<x
  ·cases f with
   | zero=>simp at h1; omega
   | succ f =>
    rw [decide_eq_true hx,bK,Int.tmod_eq_emod_of_nonneg (by omega),Int.tdiv_eq_ediv_of_nonneg (by omega),show (x:Int) % 128+128=((x % 128+128:Nat):Int) by omega,show (x:Int)/128=((x/128:Nat):Int) by omega,
     ee (by omega),ee (by omega),wE,aj (cn (by rw [zK,zL]; omega)),
     yS Q f (x/128) m _ (by rw [Nat.div_lt_iff_lt_mul (by decide),← Nat.pow_succ]; exact h1) (by omega) (by omega) (by rw [zK,zL]; omega),List.append_assoc]
    simp only [wN,decide_eq_true hx,zE]
    rfl
  ·rw [decide_eq_false hx,br,Iw (by omega)]
   simp
theorem C8 {n:Nat} (hn:bq<=n) (x:Nat) (hx:x<=1152921504606846976) (k:ByteArray->Option R):tg n x k=k (IM x):=by
 simp only [tg,IM]
 rw [yS _ 9 x n [] (by omega) (by omega) (aO hn (by omega)) (by simp)]
 have:=Am 9 x
 simp only [nP,Bool.and_true,bf,List.nil_append,wE]
 rw [aj (cn (by rw [zK,zL]; omega))]
def Ko (s:Slot):ByteArray:=yW [M8 s.Ino]++IM s.Name.size++s.Name
def I4 (a:ByteArray) (l:List Slot):ByteArray:=l.foldl (fun a s=>a++Ko s) a
def nW (b:Block):ByteArray:=bif bw b then (bif b.bZ then I4 (S [100]) b.ah else S [116]++b.Text) else eS
theorem BX (a b c:ByteArray):(a++b)++c=a++(b++c):=by
 apply ByteArray.ext
 simp [ByteArray.data_append,Array.append_assoc]
theorem D2 (x:Nat):(IM x).size<=10:=by
 have:=Am 9 x
 show ((wN 9 x).1++[M8 (wN 9 x).2]).length<=10
 rw [zK,zL]; omega
theorem vZ (l:List UInt8):(yW l).size=l.length:=rfl
theorem IN (s:Slot):(Ko s).size<=11+s.Name.size:=by
 have:=D2 s.Name.size
 simp only [Ko,ByteArray.size_append,vZ,zL]; omega
theorem eP {s:ByteArray} (h:bH s=true):1<=s.size/\s.size<=6:=by
 simp only [bH,within,zB,zD] at h
 omega
theorem IJ {l:List Slot} {i:Nat} (h:rG l i=true):(l.getD i aq).Name.size<=6:=by
 simp only [rG,Bool.or_eq_true,zB,beq_iff_eq] at h
 rcases h with ⟨h,_⟩ | ⟨⟨h,_⟩,_⟩
 ·rw [h]; decide
 ·exact (eP h).2
theorem lP {n:Nat} {p:Nat->Bool} (h:(List.range' 0 n).all p=true) {i:Nat} (hi:i<n):p i=true:=by
 rw [List.all_eq_true] at h
 exact h i (by simp [List.mem_range']; omega)
theorem wY {n:Nat} (hn:bq<=n) (b:Block) (hb:tB b) (k:ByteArray->Bool->Option R):g7 n b k=k (nW b) (bw b):=by
 simp only [g7,AQ hn b hb,nW]
 cases xi:bw b with
 | false=>rfl
 | true =>
  simp only [zM,zF,zE]
  cases hd:b.bZ with
  | false =>
   have h2:b.Text.size<=2097152:=hb.2.1
   simp only [zN,zE,zF]
   rw [aj (iO (by have:(S [116]).size=1:=rfl; omega))]
  | true =>
   simp only [bw,hd,zE,zB,beq_iff_eq] at xi
   obtain ⟨⟨hl,_⟩,hs⟩:=xi
   simp only [zM,zF,zE]
   have loop:∀ (j m i:Nat) (a:ByteArray),i+j=4->j<m->a.size<=1+17*i->gQ n b.ah (fun s=>k s true) m a (i:Int)=k (I4 a (b.ah.drop i)) true:=by
    intro j
    induction j with
    | zero =>
     intro m i a h1 h2 h3
     have:i=4:=by omega
     subst this
     cases m with
     | zero=>omega
     | succ m=>rw [List.drop_of_length_le (by omega)]; simp [gQ,I4]
    | succ j ih =>
     intro m i a h1 h2 h3
     cases m with
     | zero=>omega
     | succ m =>
      have hi:i<b.ah.length:=by omega
      have mn:=IJ (lP hs (i:=i) (by omega))
      have hv:=D2 (b.ah.getD i aq).Name.size
      have pO:=IN (b.ah.getD i aq)
      simp only [gQ,aG,hi,zV,bf,zC,nP,Bool.and_true,wE]
      rw [show decide ((i:Int)<4)=true by simp; omega,bK,C8 hn _ (by omega),aj (iO (by rw [vZ,zL]; omega)),
       aj (iO (by rw [ByteArray.size_append,vZ,zL]; omega)),aj (iO (by rw [ByteArray.size_append,ByteArray.size_append,vZ,zL]; omega)),bM (by omega),
       cQ aq hi,BX,BX,← BX (yW _)]
      exact ih m (i+1) _ (by omega) (by omega) (by
       show (a++Ko (b.ah.getD i aq)).size<=_
       rw [ByteArray.size_append]; omega)
   have:=loop 4 n 0 (S [100]) rfl (aO hn (by omega)) (by decide)
   rw [List.drop_zero] at this
   exact this
def ai (d:aa) (i:Int):aR:=d.ad.getD (i-1).toNat ay
def aH (d:aa) (p:Int):Block:=d.ab.getD (p-1).toNat aA
theorem ak {x a b:Int}:within x a b=true↔a<=x/\x<=b:=by simp [within]
theorem bJ {x:Int} (h1:0<=x) (h2:x<=9223372036854775807):aC (x-1)=x-1:=cq (by omega) (by omega)
theorem bu {x:Int} {n:Nat} (h1:1<=x) (h2:x<=n):aZ (x-1) n=true:=by
 simp only [aZ,zB,zD]; omega
def cP (d:aa) (p:Int):Block×Bool:=bif within p 1 d.ab.length then (aH d p,true) else (aA,false)
theorem yz (d:aa) (hd:d.ab.length<=cO) (p:Int) (k:Block->Bool->Option R):ob d p k=k (cP d p).1 (cP d p).2:=by
 have hd:d.ab.length<=2097152:=hd
 simp only [ob,iX,cP]
 cases h:within p 1 d.ab.length with
 | false=>rfl
 | true =>
  rw [ak] at h
  simp only [zM,zF,zE]
  rw [bJ (by omega) (by omega),aj (bu h.1 h.2)]
  rfl
def has (l:List Int) (x:Int):Bool:=l.any (·==x)
theorem zy {α:Type} (P:α->Bool) (l:List α):l.all (fun x=> !P x)= !l.any P:=by
 induction l with
 | nil=>rfl
 | cons x l ih=>simp only [List.all_cons,List.any_cons,ih,Bool.not_or]
theorem xz {n:Nat} (hn:bq<=n) (l:List Int) (hl:l.length<=cO) (x:Int) (k:Bool->Option R):tf n l x k=k (has l x):=by
 have yw:l.length<=2097152:=hl
 have:=eZ (R:=R) (L:=kS x l (fun fI=>k fI) (k false)) (l:=l) 0 (B:=0) (P:=fun y=> !(y==x)) (e:=k true) (q:=k false) (by omega)
  (fun m i _ hi=>by
   simp only [kS,bk,aG,hi,zV,bf,zE,zC]
   cases l.getD i 0==x<;>rfl) (fun m=>by simp [kS]) (n:=n) (aO hn (by omega))
 refine this.trans ?_
 rw [zy (fun y=>y==x),has]
 cases l.any fun y=>y==x<;>rfl
def firstFree (l:List Bool):Int:=match bE (fun b=> !b) l with | .ofNat j=>((j+1:Nat):Int) | _=>0
theorem wm {n:Nat} (hn:bq<=n) (l:List Bool) (hl:l.length<=cO) (k:Int->Option R):pw n l k=k (firstFree l):=by
 have yw:l.length<=2097152:=hl
 have:=tC (R:=R) (L:=gU l (fun x=>k x) (k 0)) (len:=l.length) (B:=0) (p:=fun i=> !(l.getD i false)) (e:=fun i=>k (aC (i+1))) (q:=k 0) (by omega)
  (fun m i _ hi=>by
   simp only [gU,bk,aG,hi,zV,bf,zE,zC]) (fun m=>by simp [gU]) l.length n 0 (by omega) (aO hn (by omega))
 refine this.trans ?_
 have h2:=vh (fun b:Bool=> !b) false l l 0 rfl (by omega)
 simp only [Nat.sub_zero,Nat.zero_add] at h2
 have h3:∀ j,List.find? (fun i=> !l.getD i false) (List.range' 0 l.length)=some j->j<l.length:=by
  intro j hj
  have:=List.mem_of_find?_eq_some hj
  simp [List.mem_range'] at this
  omega
 rcases gF (fun b:Bool=> !b) l with h | ⟨j,h,hj⟩
 ·rw [h] at h2
  cases hf:List.find? (fun i=> !l.getD i false) (List.range' 0 l.length) with
  | none=>simp only [firstFree,h]
  | some j=>rw [hf] at h2; simp only at h2; omega
 ·rw [h] at h2
  cases hf:List.find? (fun i=> !l.getD i false) (List.range' 0 l.length) with
  | none=>rw [hf] at h2; simp only at h2; omega
  | some j' =>
   rw [hf] at h2
   have h4:(j':Int)=(j:Int):=h2
   have:j'=j:=by omega
   subst this
   simp only [firstFree,h]
   rw [bM (by omega)]
theorem n7 (l:List Bool):(firstFree l=0/\l.all id=true)\/∃ j:Nat,firstFree l=j+1/\j<l.length/\l.getD j false=false/\(l.take j).all id=true:=by
 simp only [firstFree]
 have key:∀ l:List Bool,(bE (fun b=> !b) l= -1/\l.all id=true)\/∃ j:Nat,bE (fun b=> !b) l=j/\j<l.length/\l.getD j false=false/\(l.take j).all id=true:=by
  intro l
  induction l with
  | nil=>exact .inl ⟨rfl,rfl⟩
  | cons x l ih =>
   simp only [bE]
   cases x with
   | false=>exact .inr ⟨0,rfl,by simp,rfl,rfl⟩
   | true =>
    rcases ih with ⟨h,h2⟩ | ⟨j,h,h2,h3,h4⟩
    ·rw [h]; exact .inl ⟨rfl,by simpa using h2⟩
    ·rw [h]; exact .inr ⟨j+1,rfl,by simp; omega,by simpa using h3,by simpa using h4⟩
 rcases key l with ⟨h,h2⟩ | ⟨j,h,h2⟩
 ·rw [h]; exact .inl ⟨rfl,h2⟩
 ·rw [h]; exact .inr ⟨j,rfl,h2⟩
def aK (i:Int):Int:=bif within i 1 8 then 1+(i-1)/2 else -1
theorem gm (i:Int) (k:Int->Option R):dH i k=k (aK i):=by
 simp only [dH,iX,aK]
 cases h:within i 1 8 with
 | false=>rfl
 | true =>
  rw [ak] at h
  simp only [zM,zF,zE]
  rw [cq (n:=i-1) (by omega) (by omega),Int.tdiv_eq_ediv_of_nonneg (by omega),cq (n:=(i-1)/2) (by omega) (by omega),cq (by omega) (by omega)]
def aE (p:Int):Int:=bif within p 1 16 then p+4 else -1
theorem dV (p:Int) (k:Int->Option R):bU p k=k (aE p):=by
 simp only [bU,iX,aE]
 cases h:within p 1 16 with
 | false=>rfl
 | true =>
  rw [ak] at h
  simp only [zM,zF,zE]
  rw [cq (by omega) (by omega)]
def mark (u:Int) (m:Mem):Mem:=bif decide (0<=u)&&decide (u<m.an.length) then { m with an:=m.an.set u.toNat true } else m
theorem dk (u:Int) (m:Mem) (k:Mem->Option R):bW u m k=k (mark u m):=by
 simp only [bW,mark]
 cases h:decide (0<=u)&&decide (u<(m.an.length:Int)) with
 | false=>rfl
 | true =>
  simp only [zE]
  rw [aj (by simpa [aZ] using h)]
def aW (m:Mem):Mem×Int:=bif firstFree m.aa.au.ab==0 then (m,0) else
 (mark 0 { m with aa:={ m.aa with au:={ m.aa.au with ab:=m.aa.au.ab.set (firstFree m.aa.au.ab-1).toNat true } } },firstFree m.aa.au.ab)
def aQ (m:Mem):Mem×Int:=bif firstFree m.aa.au.bB==0 then (m,0) else
 (mark 0 { m with aa:={ m.aa with au:={ m.aa.au with bB:=m.aa.au.bB.set (firstFree m.aa.au.bB-1).toNat true } } },firstFree m.aa.au.bB)
theorem kx (l:List Bool) (h:(firstFree l==0)=false):1<=firstFree l/\firstFree l<=l.length:=by
 rcases n7 l with ⟨h1,_⟩ | ⟨j,h1,h2,_⟩
 ·rw [h1] at h; cases h
 ·omega
theorem wF {n:Nat} (hn:bq<=n) (m:Mem) (hm:eU m) (k:Mem->Int->Option R):mT n m k=k (aW m).1 (aW m).2:=by
 have hl:m.aa.au.ab.length<=2097152:=hm.d.bb
 simp only [mT,aW]
 rw [dY hn m hm,wm hn _ hm.d.bb]
 cases h:firstFree m.aa.au.ab==0 with
 | true=>rfl
 | false =>
  have:=kx _ h
  simp only [zF]
  rw [bJ (by omega) (by omega),aj (bu this.1 this.2),dk]
  simp only [mark]
  cases decide ((0:Int)<=0)&&decide ((0:Int)<(m.an.length:Int))<;>rfl
theorem Iv {n:Nat} (hn:bq<=n) (m:Mem) (hm:eU m) (k:Mem->Int->Option R):uf n m k=k (aQ m).1 (aQ m).2:=by
 have hl:m.aa.au.bB.length<=2097152:=hm.d.bi
 simp only [uf,aQ]
 rw [dY hn m hm,wm hn _ hm.d.bi]
 cases h:firstFree m.aa.au.bB==0 with
 | true=>rfl
 | false =>
  have:=kx _ h
  simp only [zF]
  rw [bJ (by omega) (by omega),aj (bu this.1 this.2),dk]
  simp only [mark]
  cases decide ((0:Int)<=0)&&decide ((0:Int)<(m.an.length:Int))<;>rfl
def fv (m:Mem):Bool:=decide (m.ae.length<40)&&within m.Next 1 99999
def dz (m:Mem) (d:bO):Mem×Int:=bif fv m then ({ m with ae:=m.ae++[{ d with Id:=m.Next }],Next:=m.Next+1 },m.Next) else (m,0)
theorem pX {n:Nat} (hn:bq<=n) (m:Mem) (hm:eU m) (d:bO) (hd:d.ab.length<=cO) (k:Mem->Int->Option R):iA n m d k=k (dz m d).1 (dz m d).2:=by
 have zo:d.ab.length<=2097152:=hd
 have Wu:m.ae.length<=2097152:=hm.dp
 simp only [iA,dz,fv,iX]
 rw [dY hn m hm]
 have e1:decide ((40:Int)<=(m.ae.length:Int))= !decide (m.ae.length<40):=by
  by_cases h:m.ae.length<40<;>simp [h]<;>omega
 rw [e1]
 cases h1:decide (m.ae.length<40) with
 | false=>rfl
 | true =>
  cases h2:within m.Next 1 99999 with
  | false=>rfl
  | true =>
   rw [ak] at h2
   simp only [zM,zN,Bool.or_false,zF,zE,Bool.and_true,List.nil_append]
   rw [aj (cn (by omega)),aj (cn (by rw [zK,zL]; omega)),cq (by omega) (by omega)]
def bd (m:Mem) (id:Int):Mem:={ m with ae:=m.ae.filter fun d=> !(d.Id==id) }
def kt {α β:Type} (P:α->Bool) (f:α->β) (z:β):List α->β
 | []=>z
 | x::l=>bif P x then f x else kt P f z l
theorem Bz {α β:Type} (P:α->Bool) (f:α->β) (z:β) (d:α) (l:List α):∀ (s:List α) (i:Nat),s=l.drop i->i<=l.length ->
  (match (List.range' i (l.length-i)).find? (fun j=>P (l.getD j d)) with | some j=>f (l.getD j d) | none=>z)=kt P f z s
 | [],i,h,hi=>by
  have:l.length<=i:=by
   have:=congrArg List.length h; simp at this; omega
  rw [show l.length-i=0 by omega]; rfl
 | x::s,i,h,hi=>by
  have fP:i<l.length:=by
   have:=congrArg List.length h; simp at this; omega
  have hx:l.getD i d=x:=by
   have:=congrArg (fun l=>l[0]?) h
   simp only [List.getElem?_cons_zero,List.getElem?_drop,Nat.add_zero] at this
   simp [zT,← this]
  have hs:s=l.drop (i+1):=by
   have:=congrArg List.tail h
   simpa [List.tail_drop] using this
  obtain ⟨k,hk⟩:∃ k,l.length-i=k+1:=⟨l.length-i-1,by omega⟩
  rw [hk,List.range'_succ,List.find?_cons,hx]
  simp only [kt]
  cases hp:P x with
  | true=>simp only [zE,hx]
  | false =>
   have ih:=Bz P f z d l s (i+1) hs (by omega)
   rw [show l.length-(i+1)=k by omega] at ih
   simp only [zF]
   exact ih
theorem B8 {α:Type} {L:Nat->Int->Option R} {l:List α} (d:α) {B:Nat} {P:α->Bool} {e:α->Option R} {q:Option R} (hl:l.length<=4611686018427387904)
  (hs:∀ m i,B<m->i<l.length->L (m+1) (i:Int)=bif P (l.getD i d) then e (l.getD i d) else L m (aC ((i:Int)+1))) (hq:∀ m,L (m+1) (l.length:Int)=q)
  {n:Nat} (hn:l.length+B<n):L n 0=kt P e q l:=by
 have:=tC (R:=R) (p:=fun i=>P (l.getD i d)) (e:=fun i=>e (l.getD i.toNat d)) hl (fun m i h1 h2=>by rw [zC]; exact hs m i h1 h2) hq l.length n 0 (by omega) hn
 refine this.trans ?_
 rw [← Bz P e q d l l 0 rfl (by omega),Nat.sub_zero]
 cases List.find? _ _ with
 | none=>rfl
 | some j=>simp
theorem xD {α β γ:Type} (k:β->γ) (P:α->Bool) (f:α->β) (z:β):∀ l:List α,kt P (fun x=>k (f x)) (k z) l=k (kt P f z l)
 | []=>rfl
 | x::l=>by simp only [kt,xD k P f z l]; cases P x<;>rfl
def jQ (d:bO):Bool:=((d.Kind==2)||(d.Kind==3))||(d.Kind==4)
def fQ (m:Mem) (block slot:Int):Int:=kt (fun d=>(jQ d&&(d.Block==block))&&(d.Slot==slot)) (·.Id) 0 m.ae
theorem AX {n:Nat} (hn:bq<=n) (m:Mem) (hm:m.ae.length<=cO) (block slot:Int) (k:Int->Option R):uc n m block slot k=k (fQ m block slot):=by
 have MP:m.ae.length<=2097152:=hm
 have:=B8 (R:=R) (L:=lM block slot m.ae (fun x=>k x) (k 0)) (l:=m.ae) aT (B:=0) (P:=fun d=>(jQ d&&(d.Block==block))&&(d.Slot==slot)) (e:=fun d=>k d.Id) (q:=k 0) (by omega)
  (fun m i _ hi=>by
   simp only [lM,x5,bk,aG,hi,zV,bf,zE,zC,jQ]) (fun m=>by simp [lM]) (n:=n) (aO hn (by omega))
 exact this.trans (xD k _ _ _ _)
def iq (m:Mem) (id:Int):Int:=kt (fun d=>d.Id==id) (·.Kind) 0 m.ae
theorem Bd {n:Nat} (hn:bq<=n) (id:Int) (m:Mem) (hm:m.ae.length<=cO) (k:Int->Mem->Option R):tI n id m k=k (iq m id) m:=by
 have MP:m.ae.length<=2097152:=hm
 have:=B8 (R:=R) (L:=jO id m.ae (fun x=>k x m) (k 0 m)) (l:=m.ae) aT (B:=0) (P:=fun d=>d.Id==id) (e:=fun d=>k d.Kind m) (q:=k 0 m) (by omega)
  (fun m i _ hi=>by
   simp only [jO,bk,aG,hi,zV,bf,zE,zC]) (fun m=>by simp [jO]) (n:=n) (aO hn (by omega))
 exact this.trans (xD (fun x=>k x m) _ _ _ _)
theorem pg {α:Type} {L:Nat->Int->List α->Option R} {l:List α} (d:α) {P:α->Bool} {B:Nat} {q:List α->Option R} (hl:l.length<=4611686018427387904)
  (hs:∀ m i acc,B<m->i<l.length->acc.length<=i->L (m+1) (i:Int) acc=bif P (l.getD i d) then L m (aC ((i:Int)+1)) (acc++[l.getD i d]) else L m (aC ((i:Int)+1)) acc)
  (hq:∀ m acc,L (m+1) (l.length:Int) acc=q acc) {n:Nat} (hn:l.length+B<n):L n 0 []=q (l.filter P):=by
 have:=ua (R:=R) (l:=l) d (f:=fun x=>bif P x then [x] else []) (C:=1) hl (fun x _=>by cases P x<;>simp) (fun m i acc h1 h2 h3=>by
  rw [hs m i acc h1 h2 (by omega)]
  cases P (l.getD i d) with
  | true=>rfl
  | false=>simp only [zF,List.append_nil]) hq l.length n 0 [] (by omega) hn (by simp)
 rw [List.drop_zero,List.nil_append] at this
 refine this.trans ?_
 congr 1
 clear this hn hq hs hl
 induction l with
 | nil=>rfl
 | cons x l ih =>
  rw [List.flatMap_cons,ih,List.filter_cons]
  cases P x<;>rfl
theorem oA {n:Nat} (hn:bq<=n) (m:Mem) (hm:eU m) (id:Int) (k:Mem->Option R):kN n m id k=k (bd m id):=by
 have MP:m.ae.length<=2097152:=hm.dp
 simp only [kN]
 rw [dY hn m hm]
 have:=pg (R:=R) (L:=iv id m.ae (fun list=>k ⟨m.aa,m.an,list,m.Next⟩)) (l:=m.ae) aT (P:=fun d=> !(d.Id==id)) (B:=0) (q:=fun list=>k ⟨m.aa,m.an,list,m.Next⟩) (by omega)
  (fun m i acc _ hi ha=>by
   simp only [iv,bk,aG,hi,zV,bf,zE,zC]
   rw [aj (cm ha (by omega) (by simp))]) (fun m acc=>by simp [iv]) (n:=n) (aO hn (by omega))
 exact this
def cC (m:Mem) (d:bO):Bool :=
 bif (d.Kind==1)||(d.Kind==6) then decide (0<d.Block)&&((ai m.aa d.Ino).ax.getD d.Ptr.toNat 0==d.Block)
 else bif (d.Kind==2)||(d.Kind==3) then (decide (0<d.Block)&&(aH m.aa d.Block).bZ)&&(((aH m.aa d.Block).ah.getD d.Slot.toNat aq).Ino==d.Ino)
 else bif d.Kind==4 then (decide (0<d.Block)&&(aH m.aa d.Block).bZ)&&bH d.Name else true
def bF (m:Mem) (d:bO):Bool:=within d.Id 1 (m.Next-1)&&(within d.Kind 1 6&&(within d.Ino 1 8&&(within d.Ptr 0 1&&(within d.Block 0 16&&(within d.Slot 0 3&&within d.bC 0 (m.Next-1))))))
def nr (m:Mem) (i:Nat):Bool:=bF m (m.ae.getD i aT)&&((m.ae.getD i aT).ab.all (fun p=>within p 1 16)&&((List.range' 0 i).all (fun j=> !((m.ae.getD j aT).Id==(m.ae.getD i aT).Id))&&cC m (m.ae.getD i aT)))
def fe (m:Mem):Bool:=(ll m.aa&&(m.an.length==21&&(decide (m.ae.length<=40)&&within m.Next 1 100000)))&&(List.range' 0 m.ae.length).all (nr m)
structure ko (d:aa):Prop where
 bb:d.au.ab.length=16
 bi:d.au.bB.length=8
 di:d.ad.length=8
 db:d.ab.length=16
 ino:∀ x∈d.ad,bj x=true
 oO:∀ b∈d.ab,bw b=true
theorem kD {d:aa}:ll d=true↔ko d:=by
 simp only [ll,pM,zB,beq_iff_eq,List.all_eq_true]
 exact ⟨fun ⟨⟨⟨h1,h2⟩,h3,h4⟩,h5,h6⟩=>⟨h1,h2,h3,h4,h5,h6⟩,fun h=>⟨⟨⟨h.bb,h.bi⟩,h.di,h.db⟩,h.ino,h.oO⟩⟩
theorem ko.sF {d:aa} (h:ko d) {i:Int} (h1:1<=i) (h2:i<=8):bj (ai d i)=true:=h.ino _ (aV ay (by rw [h.di]; omega))
theorem ko.nz {d:aa} (h:ko d) {p:Int} (h1:1<=p) (h2:p<=16):bw (aH d p)=true:=h.oO _ (aV aA (by rw [h.db]; omega))
theorem ko.rK {d:aa} (h:ko d) {i:Int} (h1:1<=i) (h2:i<=8):(ai d i).ax.length=2:=js (h.sF h1 h2)
theorem mw {b:Block} (h:bw b=true) (hd:b.bZ=true):b.ah.length=4:=by
 simp only [bw,hd,zE,zB,beq_iff_eq] at h
 exact h.1.1
theorem GW {n:Nat} (hn:bq<=n) (m:Mem) (hd:ko m.aa) (el:bO) (mn:el.Name.size<=cO) (hK:1<=el.Kind/\el.Kind<=6) (hI:1<=el.Ino/\el.Ino<=8) (hP:0<=el.Ptr/\el.Ptr<=1) (hB:0<=el.Block/\el.Block<=16) (hS:0<=el.Slot/\el.Slot<=3)
  (T:(Bool->Option R)->Option R) (k:Bool->Option R)
  (h1:el.Kind=1\/el.Kind=6->T k=aJ (!(decide (0<el.Block))||(aZ (aC (el.Ino-1)) m.aa.ad.length)) (aJ (!(decide (0<el.Block))||(aZ el.Ptr (((m.aa.ad.getD ((aC (el.Ino-1)).toNat) ay).ax).length))) (k ((decide (0<el.Block))&&((((m.aa.ad.getD ((aC (el.Ino-1)).toNat) ay).ax).getD el.Ptr.toNat 0)==el.Block)))))
  (h2:el.Kind=2\/el.Kind=3->T k=aJ (!(decide (0<el.Block))||(aZ (aC (el.Block-1)) m.aa.ab.length)) (aJ (!((decide (0<el.Block))&&((m.aa.ab.getD ((aC (el.Block-1)).toNat) aA).bZ))||(aZ (aC (el.Block-1)) m.aa.ab.length))
   (aJ (!((decide (0<el.Block))&&((m.aa.ab.getD ((aC (el.Block-1)).toNat) aA).bZ))||(aZ el.Slot (((m.aa.ab.getD ((aC (el.Block-1)).toNat) aA).ah).length)))
   (k (((decide (0<el.Block))&&((m.aa.ab.getD ((aC (el.Block-1)).toNat) aA).bZ))&&(((((m.aa.ab.getD ((aC (el.Block-1)).toNat) aA).ah).getD el.Slot.toNat aq).Ino)==el.Ino))))))
  (h4:el.Kind=4->T k=aJ (!(decide (0<el.Block))||(aZ (aC (el.Block-1)) m.aa.ab.length)) (j7 n el.Name fun r =>
   k (((decide (0<el.Block))&&((m.aa.ab.getD ((aC (el.Block-1)).toNat) aA).bZ))&&(bif (decide (0<el.Block))&&((m.aa.ab.getD ((aC (el.Block-1)).toNat) aA).bZ) then r else false))))
  (h5:el.Kind=5->T k=k true):T k=k (cC m el):=by
 have wi:aC (el.Ino-1)=el.Ino-1:=bJ (by omega) (by omega)
 have wb:aC (el.Block-1)=el.Block-1:=bJ (by omega) (by omega)
 have ri:aZ (el.Ino-1) m.aa.ad.length=true:=bu hI.1 (by rw [hd.di]; omega)
 have Vy:(ai m.aa el.Ino).ax.length=2:=hd.rK hI.1 hI.2
 have rp:aZ el.Ptr (ai m.aa el.Ino).ax.length=true:=by rw [Vy]; simp only [aZ,zB,zD]; omega
 have rb:decide (0<el.Block)=true->aZ (el.Block-1) m.aa.ab.length=true:=fun h=>bu (of_decide_eq_true h) (by rw [hd.db]; omega)
 have rb':(!(decide (0<el.Block))||aZ (el.Block-1) m.aa.ab.length)=true:=by
  cases h:decide (0<el.Block) with
  | false=>rfl
  | true=>rw [rb h]; rfl
 have rs:(!((decide (0<el.Block))&&(aH m.aa el.Block).bZ)||aZ el.Slot (aH m.aa el.Block).ah.length)=true:=by
  cases h:decide (0<el.Block) with
  | false=>rfl
  | true =>
   cases HK:(aH m.aa el.Block).bZ with
   | false=>rfl
   | true =>
    rw [mw (hd.nz (of_decide_eq_true h) hB.2) HK]
    simp only [aZ,Bool.and_true,zM,Bool.false_or,zB,zD]; omega
 have rb2:(!((decide (0<el.Block))&&(aH m.aa el.Block).bZ)||aZ (el.Block-1) m.aa.ab.length)=true:=by
  cases h:decide (0<el.Block) with
  | false=>rfl
  | true=>rw [rb h]; simp
 rcases show el.Kind=1\/el.Kind=2\/el.Kind=3\/el.Kind=4\/el.Kind=5\/el.Kind=6 by omega with h | h | h | h | h | h
 ·rw [h1 (.inl h),wi]
  simp only [cC,h]
  rw [ri,Bool.or_true,bf]
  exact (aj (by show (!_||aZ el.Ptr (ai m.aa el.Ino).ax.length)=true; rw [rp,Bool.or_true])).trans rfl
 ·rw [h2 (.inl h),wb]
  simp only [cC,h]
  rw [rb',bf]
  exact (aj rb2).trans ((aj rs).trans rfl)
 ·rw [h2 (.inr h),wb]
  simp only [cC,h]
  rw [rb',bf]
  exact (aj rb2).trans ((aj rs).trans rfl)
 ·rw [h4 h,wb,rb',bf,tU hn _ mn]
  simp only [cC,h]
  show k _=k (((decide (0<el.Block))&&(aH m.aa el.Block).bZ)&&bH el.Name)
  congr 1
  show (((decide (0<el.Block))&&(aH m.aa el.Block).bZ)&&(bif ((decide (0<el.Block))&&(aH m.aa el.Block).bZ) then bH el.Name else false))=_
  cases ((decide (0<el.Block))&&(aH m.aa el.Block).bZ)<;>rfl
 ·rw [h5 h]
  simp only [cC,h]; rfl
 ·rw [h1 (.inr h),wi]
  simp only [cC,h]
  rw [ri,Bool.or_true,bf]
  exact (aj (by show (!_||aZ el.Ptr (ai m.aa el.Ino).ax.length)=true; rw [rp,Bool.or_true])).trans rfl
theorem Mw {n:Nat} (hn:bq<=n) (m:Mem) (hm:eU m) (hd:ko m.aa) (hnx:1<=m.Next/\m.Next<=100000) (i:Nat) (hi:i<m.ae.length) (k:Bool->Option R):wV n m (i:Int) k=k (nr m i):=by
 have Ck:m.ae.length<=2097152:=hm.dp
 have MR:=hm.dep _ (aV aT hi)
 have Yt:(m.ae.getD i aT).ab.length<=2097152:=MR.2
 simp only [wV,iX,aG,hi,zV,bf,zC,nr,bF]
 rw [bJ (by omega) (by omega)]
 obtain ⟨el,he⟩:∃ el,m.ae.getD i aT=el:=⟨_,rfl⟩
 simp only [he] at MR Yt ⊢
 cases h1:within el.Id 1 (m.Next-1); · rfl
 cases h2:within el.Kind 1 6; · rfl
 cases h3:within el.Ino 1 8; · rfl
 cases h4:within el.Ptr 0 1; · rfl
 cases h5:within el.Block 0 16; · rfl
 cases h6:within el.Slot 0 3; · rfl
 cases h7:within el.bC 0 (m.Next-1); · rfl
 simp only [zM,zN,zE,zF,Bool.or_false,Bool.true_and]
 rw [ak] at h2 h3 h4 h5 h6
 have tail:=GW (R:=R) hn m hd el MR.1 h2 h3 h4 h5 h6
 generalize hQ:(bif (el.Kind==1) then _ else _:Option R)=Q
 have hq:Q=k (cC m el):=by
  refine tail (fun _=>Q) k ?_ ?_ ?_ ?_
  ·rintro (h | h)<;>(rw [← hQ]; simp only [h]; rfl)
  ·rintro (h | h)<;>(rw [← hQ]; simp only [h]; rfl)
  ·intro h; rw [← hQ]; simp only [h]; rfl
  ·intro h; rw [← hQ]; simp only [h]; rfl
 have l2:=j9 (R:=R) (L:=fw (i:Int) el.Id m.ae (fun x=>k x) Q) (len:=i) (B:=0) (p:=fun j=> !((m.ae.getD j aT).Id==el.Id)) (e:=k false) (q:=Q) (by omega)
  (fun m' j _ hj=>by
   simp only [fw,bk,aG,hj,zV,zE,zC]
   rw [show decide (j<m.ae.length)=true by simp; omega,bf]
   cases (m.ae.getD j aT).Id==el.Id<;>rfl) (fun m'=>by simp [fw]) i n 0 (by omega) (aO hn (by omega))
 have l1:=eZ (R:=R) (L:=kJ el.ab (fun x=>k x) (fw (i:Int) el.Id m.ae (fun x=>k x) Q n 0)) (l:=el.ab) 0 (B:=0) (P:=fun p=>within p 1 16) (e:=k false) (q:=fw (i:Int) el.Id m.ae (fun x=>k x) Q n 0) (by omega)
  (fun m' j _ hj=>by
   simp only [kJ,iX,bk,aG,hj,zV,zE,bf,zC]
   cases within (el.ab.getD j 0) 1 16<;>rfl) (fun m'=>by simp [kJ]) (n:=n) (aO hn (by omega))
 refine l1.trans ?_
 have l2':fw (i:Int) el.Id m.ae (fun x=>k x) Q n 0=_:=l2
 rw [l2',hq]
 cases List.all el.ab _<;>cases List.all (List.range' 0 i) _<;>rfl
theorem mS {n:Nat} (hn:bq<=n) (m:Mem) (hm:eU m) (k:Bool->Option R):k9 n m k=k (fe m):=by
 have Ck:m.ae.length<=2097152:=hm.dp
 simp only [k9,iX,fe]
 rw [xW hn _ hm.d,show (21:Int)=((21:Nat):Int) from rfl,cG,show decide ((40:Int)<(m.ae.length:Int))= !decide (m.ae.length<=40) by by_cases h:m.ae.length<=40<;>simp [h]<;>omega]
 cases h1:ll m.aa; · rfl
 cases h2:m.an.length==21; · rfl
 cases h3:decide (m.ae.length<=40); · rfl
 cases h4:within m.Next 1 100000; · rfl
 simp only [zM,zN,zE,zF,Bool.or_false,Bool.true_and]
 rw [ak] at h4
 have hd:=kD.1 h1
 have:=j9 (R:=R) (L:=lI n m.Next m.aa.au.ab m.aa.au.bB m.aa.ad m.aa.ab m.an m.ae (fun x=>k x) (k true)) (len:=m.ae.length) (B:=0) (p:=nr m) (e:=k false) (q:=k true) (by omega)
  (fun m' j _ hj=>by
   simp only [lI,bk,hj,zV,zE]
   rw [Mw hn m hm hd h4 j hj]
   cases nr m j<;>rfl) (fun m'=>by simp [lI]) m.ae.length n 0 (by omega) (aO hn (by omega))
 refine this.trans ?_
 cases List.all _ (nr m)<;>rfl
theorem fc {α:Type} (l:List α) (d:α) {i:Nat} (h:i<l.length):l.getD i d=l[i]:=by simp [zT,h]
def oy:List UInt8->List UInt8->List ByteArray
 | cur,[]=>[yW cur]
 | cur,c::l=>bif c==47 then yW cur::oy [] l else oy (cur++[c]) l
def aN (p:ByteArray):List ByteArray×Bool:=match p.data.toList with
 | []=>([],false)
 | c::l=>bif c==47 then (match l with
  | []=>([],true)
  | l=>bif (oy [] l).all bH&&decide ((oy [] l).length<=4) then (oy [] l,true) else ([],false)) else ([],false)
theorem AT (p:ByteArray) (b i:Nat) (h:b<=i):p.extract b i=yW ((p.data.toList.drop b).take (i-b)):=by
 apply ByteArray.ext
 apply Array.ext'
 simp only [ByteArray.data_extract,yW,Array.toList_extract,List.extract_eq_take_drop]
theorem vf {n:Nat} (hn:bq<=n) (p:ByteArray) (hp:p.size<=cO) (q0:Bool->List ByteArray->Option R) (q1:List ByteArray->Option R):∀ (rest cur:List UInt8) (b i m:Nat) (out:List ByteArray),p.data.toList.drop i=rest->cur=(p.data.toList.drop b).take (i-b)->b<=i->i<=p.size ->
  rest.length+1<m->out.length<=i->fR n p q0 q1 m (b:Int) (i:Int) out=bif (oy cur rest).all bH then q1 (out++oy cur rest) else q0 false []
 | [],cur,b,i,m,out,h1,h2,h3,h4,h5,h6=>by
  have yy:p.size<=2097152:=hp
  have hi:i=p.size:=by
   have:=congrArg List.length h1; rw [List.length_drop] at this
   have:p.data.toList.length=p.size:=rfl
   simp at *; omega
  match m,h5 with
  | m+2,_ =>
   simp only [fR,bk,oy,List.all_cons,List.all_nil,Bool.and_true]
   rw [show decide ((i:Int)<=(p.size:Int))=true by simp; omega,bK,show decide (i<p.size)=false by simp; omega]
   simp only [zN,Bool.true_or,bf,Bool.false_and,zF,zC]
   rw [AT p b i h3,← h2,aj (by simp only [jX,zB,zD]; omega),tU hn _ (by
    have:cur.length<=i-b:=by rw [h2,List.length_take]; omega
    show cur.length<=2097152; omega)]
   cases bH (yW cur) with
   | false=>rfl
   | true =>
    simp only [zM,zF,zE]
    rw [aj (by simp only [jX,zB,zD]; omega),aj (cm h6 (by omega) (by simp)),bM (by omega),show decide (((i+1:Nat):Int)<=(p.size:Int))=false by simp; omega]
    rfl
 | c::rest,cur,b,i,m,out,h1,h2,h3,h4,h5,h6=>by
  have yy:p.size<=2097152:=hp
  have mn:p.data.toList.length=p.size:=rfl
  have hi:i<p.data.toList.length:=by
   have:=congrArg List.length h1; rw [List.length_drop] at this; simp at this ⊢; omega
  have hc:p.data.toList.getD i 0=c:=by
   have:=cQ (0:UInt8) hi; rw [h1] at this; injection this with h _; exact h.symm
  have hr:p.data.toList.drop (i+1)=rest:=by
   have:=cQ (0:UInt8) hi; rw [h1] at this; injection this with _ h; exact h.symm
  have mU:cur++[c]=(p.data.toList.drop b).take (i+1-b):=by
   rw [show i+1-b=(i-b)+1 by omega,List.take_add_one,← h2]
   congr 1
   rw [List.getElem?_drop,show b+(i-b)=i by omega,List.getElem?_eq_getElem hi]
   have:p.data.toList[i]=c:=by rw [← hc]; exact (fc _ 0 hi).symm
   rw [this]; rfl
  match m,h5 with
  | m+1,h5 =>
   have rT:i<p.size:=by omega
   simp only [fR,bk,aG,oy]
   rw [show decide ((i:Int)<=(p.size:Int))=true by simp; omega,bK,decide_eq_true rT]
   simp only [Bool.or_true,bf,Bool.true_and,zC,Ge,hc]
   have Vl:(((c.toNat:Nat):Int)==47)=(c==47):=by
    rw [show (47:Int)=((47:Nat):Int) from rfl,cG]
    cases h:c==47 with
    | true=>rw [beq_iff_eq] at h; subst h; rfl
    | false =>
     rw [beq_eq_false_iff_ne] at h ⊢
     intro h2; apply h; exact UInt8.toNat_inj.1 h2
   rw [Vl]
   cases h47:c==47 with
   | false =>
    simp only [zN,zE,zF]
    rw [bM (by omega)]
    exact vf hn p hp q0 q1 rest (cur++[c]) b (i+1) m out hr mU (by omega) (by omega) (by simp at h5; omega) (by omega)
   | true =>
    simp only [zM,zE,zF]
    rw [AT p b i h3,← h2,aj (by simp only [jX,zB,zD]; omega),tU hn _ (by
     have:cur.length<=i-b:=by rw [h2,List.length_take]; omega
     show cur.length<=2097152; omega)]
    rw [List.all_cons]
    cases bH (yW cur) with
    | false=>rfl
    | true =>
     simp only [zM,zF,Bool.true_and]
     rw [aj (by simp only [jX,zB,zD]; omega),aj (cm h6 (by omega) (by simp)),bM (by omega),
      vf hn p hp q0 q1 rest [] (i+1) (i+1) m _ hr (by simp) (by omega) (by omega) (by simp at h5; omega) (by rw [zK,zL]; omega),List.append_assoc]
     rfl
theorem Di {a:ByteArray} {l:List UInt8}:a=yW l↔a.data.toList=l:=by
 constructor
 ·rintro rfl; rfl
 ·intro h; apply ByteArray.ext; apply Array.ext'; exact h
theorem nJ {n:Nat} (hn:bq<=n) (p:ByteArray) (hp:p.size<=cO) (k:List ByteArray->Bool->Option R):jn n p k=k (aN p).1 (aN p).2:=by
 have yy:p.size<=2097152:=hp
 simp only [jn,aN]
 have mn:p.data.toList.length=p.size:=rfl
 cases hl:p.data.toList with
 | nil =>
  have:p.size=0:=by rw [← mn,hl]; rfl
  rw [this]; rfl
 | cons c l =>
  have h0:p.size=l.length+1:=by rw [← mn,hl]; rfl
  have hz:((p.size:Int)==0)=false:=by rw [h0]; simp; omega
  have hb:bt p 0=c.toNat:=by rw [Ge,hl]; rfl
  have Vl:(((c.toNat:Nat):Int)==47)=(c==47):=by
   rw [show (47:Int)=((47:Nat):Int) from rfl,cG]
   cases h:c==47 with
   | true=>rw [beq_iff_eq] at h; subst h; rfl
   | false =>
    rw [beq_eq_false_iff_ne] at h ⊢
    intro h2; apply h; exact UInt8.toNat_inj.1 h2
  rw [hz,hb,Vl,show aZ (0:Int) p.size=true by simp [aZ]; omega]
  simp only [Bool.or_true,bf,Bool.false_or]
  cases h47:c==47 with
  | false=>rfl
  | true =>
   simp only [zM,zF,zE]
   rw [beq_iff_eq] at h47; subst h47
   cases l with
   | nil =>
    have:(p==S [47])=true:=by rw [beq_iff_eq]; exact Di.2 hl
    rw [this]; rfl
   | cons d l =>
    have:(p==S [47])=false:=by
     rw [beq_eq_false_iff_ne]; intro h
     have h2:p.data.toList=[47]:=Di.1 h
     rw [hl] at h2; injection h2 with _ h2; cases h2
    rw [this]
    have:=vf (R:=R) hn p hp (fun x fI=>k fI x) (fun out=>bif (decide (4<(out.length:Int))) then k ([]) false else k out true) (d::l) [] 1 1 n [] (by rw [hl]; rfl) (by simp) (by omega) (by omega) (aO hn (by simp only [zR] at h0 ⊢; omega)) (by simp)
    simp only [zF]
    refine this.trans ?_
    rw [List.nil_append]
    cases h1:(oy [] (d::l)).all bH with
    | false=>rfl
    | true =>
     rw [show decide ((4:Int)<((oy [] (d::l)).length:Int))= !decide ((oy [] (d::l)).length<=4) by by_cases h:(oy [] (d::l)).length<=4<;>simp [h]<;>omega]
     cases decide ((oy [] (d::l)).length<=4)<;>rfl
def eO (l:List ByteArray):ByteArray:=l.foldl (fun s x=>(s++S [47])++x) eS
def ao (p:ByteArray):ByteArray×ByteArray×Bool:=bif !(aN p).2||(aN p).1.length==0 then (eS,eS,false) else
 (bif eO (aN p).1.dropLast==eS then S [47] else eO (aN p).1.dropLast,(aN p).1.getD ((aN p).1.length-1) eS,true)
theorem nf (p:ByteArray):(aN p=([],false))\/(aN p=([],true))\/((aN p).2=true/\(aN p).1.all bH=true/\(aN p).1.length<=4):=by
 simp only [aN]
 cases p.data.toList with
 | nil=>exact .inl rfl
 | cons c l =>
  dsimp only
  generalize (c==47)=z
  cases z with
  | false=>exact .inl rfl
  | true =>
   cases l with
   | nil=>exact .inr (.inl rfl)
   | cons d l =>
    dsimp only
    generalize oy [] (d::l)=ss
    cases h1:ss.all bH&&decide (ss.length<=4) with
    | false=>exact .inl rfl
    | true =>
     simp only [zB,zD] at h1
     exact .inr (.inr ⟨rfl,h1.1,h1.2⟩)
theorem m6 {p:ByteArray} (h:(aN p).2=true):(aN p).1.all bH=true/\(aN p).1.length<=4:=by
 rcases nf p with h1 | h1 | h1
 ·rw [h1] at h; cases h
 ·rw [h1]; exact ⟨rfl,by simp⟩
 ·exact h1.2
theorem uN:∀ (l:List ByteArray) (a:ByteArray),(∀ x∈l,x.size<=6)->(l.foldl (fun s x=>(s++S [47])++x) a).size<=a.size+7*l.length
 | [],a,_=>by simp
 | x::l,a,h=>by
  have h1:=h x zO
  have h2:=uN l ((a++S [47])++x) fun y hy=>h y (zJ _ hy)
  have h3:(S [47]).size=1:=rfl
  rw [List.foldl_cons,zR]
  rw [ByteArray.size_append,ByteArray.size_append,h3] at h2
  omega
theorem pf {n:Nat} (hn:bq<=n) (p:ByteArray) (hp:p.size<=cO) (k:ByteArray->ByteArray->Bool->Option R):ky n p k=k (ao p).1 (ao p).2.1 (ao p).2.2:=by
 simp only [ky,ao]
 rw [nJ hn p hp]
 cases h2:(aN p).2 with
 | false=>rfl
 | true =>
  obtain ⟨Fz,hlen⟩:=m6 h2
  generalize (aN p).1=l at *
  rw [show (0:Int)=((0:Nat):Int) from rfl,cG]
  cases hl:l.length==0 with
  | true=>rfl
  | false =>
   have QN:l.length≠0:=by simpa using hl
   have mn:∀ x∈l,x.size<=6:=fun x hx=>(eP (List.all_eq_true.1 Fz x hx)).2
   simp only [zM,Bool.false_or,zF]
   have hS:(S [47]).size=1:=rfl
   have loop:∀ (j m i:Nat) (a:ByteArray) (q:ByteArray->Option R),i+j+1=l.length->j<m->a.size<=7*i->iQ l q m a (i:Int)=q ((l.dropLast.drop i).foldl (fun s x=>(s++S [47])++x) a):=by
    intro j
    induction j with
    | zero =>
     intro m i a q h1 h2 h3
     cases m with
     | zero=>omega
     | succ m =>
      simp only [iQ]
      rw [bM (by omega),bk,show decide (i+1<l.length)=false by simp; omega,List.drop_of_length_le (by simp; omega)]
      rfl
    | succ j ih =>
     intro m i a q h1 h2 h3
     cases m with
     | zero=>omega
     | succ m =>
      have hi:i<l.length:=by omega
      have hx:=mn _ (aV eS hi)
      have Ck:i<l.dropLast.length:=by simp; omega
      simp only [iQ,aG,zC]
      rw [bM (by omega),bk,show decide (i+1<l.length)=true by simp; omega,decide_eq_true hi,bK,bf,aj (iO (by omega)),aj (iO (by rw [ByteArray.size_append]; omega)),
       ih m (i+1) _ q (by omega) (by omega) (by rw [ByteArray.size_append,ByteArray.size_append]; omega),cQ eS Ck,List.foldl_cons]
      congr 3
      rw [fc _ _ hi,fc _ _ Ck,List.getElem_dropLast]
   have:=loop (l.length-1) n 0 eS (fun s=>bif s==eS then aJ (aZ (aC ((l.length:Int)-1)) l.length) (k (S [47]) (l.getD ((aC ((l.length:Int)-1)).toNat) eS) true) else aJ (aZ (aC ((l.length:Int)-1)) l.length) (k s (l.getD ((aC ((l.length:Int)-1)).toNat) eS) true)) (by omega) (aO hn (by omega)) (by decide)
   refine this.trans ?_
   rw [List.drop_zero,bJ (by omega) (by omega),aj (bu (by omega) (by omega)),aj (bu (by omega) (by omega)),show ((l.length:Int)-1).toNat=l.length-1 by omega]
   show (bif eO l.dropLast==eS then _ else _)=_
   cases eO l.dropLast==eS<;>rfl
def fZ (d:aa) (name:ByteArray):List Int->Int×Int×Int
 | []=>(0,0,0)
 | p::l=>bif ((cP d p).2&&(cP d p).1.bZ)&&decide (0<=dE (cP d p).1 name) then (p,dE (cP d p).1 name,((cP d p).1.ah.getD (dE (cP d p).1 name).toNat aq).Ino) else fZ d name l
def find (d:aa) (i:Int) (name:ByteArray):Int×Int×Int:=bif within i 1 d.ad.length&&(ai d i).Kind==2 then fZ d name (ai d i).ax else (0,0,0)
theorem DE {b:Block} {name:ByteArray} (h:0<=dE b name):(dE b name).toNat<b.ah.length:=by
 revert h; simp only [dE]
 cases name==eS with
 | true=>intro h; simp at h
 | false =>
  simp only [zF]
  rcases gF (fun s:Slot=>s.Name==name) b.ah with h | ⟨j,h,hj⟩<;>rw [h]<;>intro h2
  ·omega
  ·omega
theorem L7 {d:aa} (hd:iw d) (p:Int):(cP d p).1.ah.length<=cO:=by
 simp only [cP]
 cases h:within p 1 d.ab.length with
 | false=>exact Nat.zero_le _
 | true =>
  rw [ak] at h
  exact (hd.oO _ (aV aA (by omega))).1
theorem qU {n:Nat} (hn:bq<=n) (d:aa) (hd:iw d) (i:Int) (name:ByteArray) (k:Int->Int->Int->Option R):lT n d i name k=k (find d i name).1 (find d i name).2.1 (find d i name).2.2:=by
 have Qe:d.ad.length<=2097152:=hd.di
 simp only [lT,iX,find]
 cases hw:within i 1 d.ad.length with
 | false=>rfl
 | true =>
  rw [ak] at hw
  rw [bJ (by omega) (by omega),bu hw.1 hw.2]
  simp only [Bool.or_true,bf,zM,Bool.false_or,Bool.true_and]
  show (bif !((ai d i).Kind==2) then _ else _)=_
  cases hk:(ai d i).Kind==2 with
  | false=>rfl
  | true =>
   have KN:(ai d i).ax.length<=2097152:=hd.ino _ (aV ay (by omega))
   simp only [zM,zF,zE]
   have loop:∀ (ps:List Int) (j m:Nat),ps=(ai d i).ax.drop j->j<=(ai d i).ax.length->ps.length<m->jC n name d.au.ab d.au.bB d.ad d.ab (ai d i).ax (fun x fI q7=>k x fI q7) (k 0 0 0) m (j:Int)=k (fZ d name ps).1 (fZ d name ps).2.1 (fZ d name ps).2.2:=by
    intro ps
    induction ps with
    | nil =>
     intro j m h1 h2 h3
     have:j=(ai d i).ax.length:=by have:=congrArg List.length h1; simp at this; omega
     cases m with
     | zero=>simp at h3
     | succ m=>simp [jC,fZ,this]
    | cons p ps ih =>
     intro j m h1 h2 h3
     have hj:j<(ai d i).ax.length:=by have:=congrArg List.length h1; simp at this; omega
     have P1:=cQ (0:Int) hj
     rw [← h1] at P1; injection P1 with Vq MK
     cases m with
     | zero=>simp at h3
     | succ m =>
      simp only [jC,bk,aG,hj,zV,zE,bf,zC,← Vq]
      rw [show (⟨⟨d.au.ab,d.au.bB⟩,d.ad,d.ab⟩:aa)=d from rfl,yz d hd.db,DA hn _ (L7 hd p)]
      simp only [fZ]
      cases hc:((cP d p).2&&(cP d p).1.bZ)&&decide (0<=dE (cP d p).1 name) with
      | false =>
       simp only [zF]
       rw [bM (by omega)]
       exact ih (j+1) m MK (by omega) (by simp at h3; omega)
      | true =>
       simp only [zB,zD] at hc
       have:=DE hc.2
       simp only [zE]
       rw [aj (by simp only [aZ,zB,zD]; omega)]
   exact loop _ 0 n (by simp) (by omega) (aO hn (by omega))
def cz (d:aa):Int->List ByteArray->Int
 | i,[]=>i
 | i,x::l=>bif within (find d i x).2.2 1 d.ad.length then cz d (find d i x).2.2 l else 0
def aD (d:aa) (p:ByteArray):Int:=bif (aN p).2 then cz d 1 (aN p).1 else 0
theorem jd {n:Nat} (hn:bq<=n) (d:aa) (hd:iw d) (p:ByteArray) (hp:p.size<=cO) (k:Int->Option R):gK n d p k=k (aD d p):=by
 simp only [gK,aD]
 rw [nJ hn p hp]
 cases h2:(aN p).2 with
 | false=>rfl
 | true =>
  obtain ⟨Fz,hlen⟩:=m6 h2
  generalize (aN p).1=l at *
  simp only [zM,zF,zE]
  have loop:∀ (ps:List ByteArray) (j m:Nat) (i:Int),ps=l.drop j->j<=l.length->ps.length<m->iH n l d.au.ab d.au.bB d.ad d.ab (fun x=>k x) (fun i=>k i) m i (j:Int)=k (cz d i ps):=by
   intro ps
   induction ps with
   | nil =>
    intro j m i h1 h2 h3
    have:j=l.length:=by have:=congrArg List.length h1; simp at this; omega
    cases m with
    | zero=>simp at h3
    | succ m=>simp [iH,cz,this]
   | cons p ps ih =>
    intro j m i h1 h2 h3
    have hj:j<l.length:=by have:=congrArg List.length h1; simp at this; omega
    have P1:=cQ eS hj
    rw [← h1] at P1; injection P1 with Vq MK
    cases m with
    | zero=>simp at h3
    | succ m =>
     simp only [iH,iX,bk,aG,hj,zV,zE,bf,zC,← Vq]
     rw [show (⟨⟨d.au.ab,d.au.bB⟩,d.ad,d.ab⟩:aa)=d from rfl,qU hn d hd]
     simp only [cz]
     cases hc:within (find d i p).2.2 1 d.ad.length with
     | false=>rfl
     | true =>
      simp only [zM,zF,zE]
      rw [bM (by omega)]
      exact ih (j+1) m _ MK (by omega) (by simp at h3; omega)
  exact loop _ 0 n 1 (by simp) (by omega) (aO hn (by omega))
def waits (m:Mem) (dir:Int) (name:ByteArray):Bool:=m.ae.any fun d=>(((d.Kind==4)&&decide (0<d.bC))&&(d.Name==name))&&has (ai m.aa dir).ax d.Block
theorem yR {n:Nat} (hn:bq<=n) (m:Mem) (hm:m.ae.length<=cO) (hd:m.aa.ad.length<=cO) (dir:Int) (h1:1<=dir) (h2:dir<=m.aa.ad.length) (hp:(ai m.aa dir).ax.length<=cO) (name:ByteArray) (k:Bool->Option R) :
  qi n m dir name k=k (waits m dir name):=by
 have MP:m.ae.length<=2097152:=hm
 have zo:m.aa.ad.length<=2097152:=hd
 have:=eZ (R:=R) (L:=iN n dir name m.aa.ad m.ae (fun x=>k x) (k false)) (l:=m.ae) aT (B:=0) (P:=fun d=> !((((d.Kind==4)&&decide (0<d.bC))&&(d.Name==name))&&has (ai m.aa dir).ax d.Block)) (e:=k true) (q:=k false) (by omega)
  (fun m' i _ hi=>by
   simp only [iN,bk,aG,hi,zV,bf,zE,zC]
   rw [bJ (by omega) (by omega),bu h1 h2,Bool.or_true,bf]
   refine (xz hn (ai m.aa dir).ax hp _ _).trans ?_
   generalize ((((m.ae.getD i aT).Kind==4)&&decide (0<(m.ae.getD i aT).bC))&&((m.ae.getD i aT).Name==name))=c
   generalize has (ai m.aa dir).ax (m.ae.getD i aT).Block=x
   cases c<;>cases x<;>rfl) (fun m'=>by simp [iN]) (n:=n) (aO hn (by omega))
 refine this.trans ?_
 rw [zy (fun d:bO=>(((d.Kind==4)&&decide (0<d.bC))&&(d.Name==name))&&has (ai m.aa dir).ax d.Block),waits]
 cases m.ae.any _<;>rfl
def held (m:Mem) (i:Int):Bool:=m.ae.any fun d=>((d.Kind==4)&&decide (0<d.bC))&&has (ai m.aa i).ax d.Block
theorem Jj {n:Nat} (hn:bq<=n) (m:Mem) (hm:m.ae.length<=cO) (hd:m.aa.ad.length<=cO) (dir:Int) (h1:1<=dir) (h2:dir<=m.aa.ad.length) (hp:(ai m.aa dir).ax.length<=cO) (k:Bool->Option R) :
  yc n m dir k=k (held m dir):=by
 have MP:m.ae.length<=2097152:=hm
 have zo:m.aa.ad.length<=2097152:=hd
 have:=eZ (R:=R) (L:=jT n dir m.aa.ad m.ae (fun x=>k x) (k false)) (l:=m.ae) aT (B:=0) (P:=fun d=> !(((d.Kind==4)&&decide (0<d.bC))&&has (ai m.aa dir).ax d.Block)) (e:=k true) (q:=k false) (by omega)
  (fun m' i _ hi=>by
   simp only [jT,bk,aG,hi,zV,bf,zE,zC]
   rw [bJ (by omega) (by omega),bu h1 h2,Bool.or_true,bf]
   refine (xz hn (ai m.aa dir).ax hp _ _).trans ?_
   generalize (((m.ae.getD i aT).Kind==4)&&decide (0<(m.ae.getD i aT).bC))=c
   generalize has (ai m.aa dir).ax (m.ae.getD i aT).Block=x
   cases c<;>cases x<;>rfl) (fun m'=>by simp [jT]) (n:=n) (aO hn (by omega))
 refine this.trans ?_
 rw [zy (fun d:bO=>((d.Kind==4)&&decide (0<d.bC))&&has (ai m.aa dir).ax d.Block),held]
 cases m.ae.any _<;>rfl
def o5 (b:Block):List ByteArray:=bif b.bZ then (b.ah.filter fun s=> !(s.Name==eS)).map (·.Name) else []
def o0 (d:aa) (i:Int):List ByteArray:=bif within i 1 d.ad.length&&(ai d i).Kind==2 then (ai d i).ax.flatMap fun p=>o5 (cP d p).1 else []
theorem Gi (b:Block):(o5 b).length<=b.ah.length:=by
 simp only [o5]
 cases b.bZ with
 | false=>simp
 | true=>simp only [zE,List.length_map]; exact List.length_filter_le _ _
theorem CS (b:Block) (hb:b.ah.length<=2097152) (q:List ByteArray->Option R) (m:Nat) (hm:b.ah.length<m) (acc:List ByteArray) (ha:acc.length<=1000000000):eM b.bZ b.ah q m 0 acc=q (acc++o5 b):=by
 cases hd:b.bZ with
 | false =>
  cases m with
  | zero=>omega
  | succ m=>simp [eM,o5,hd]
 | true =>
  have loop:∀ (ss:List Slot) (j m:Nat) (acc:List ByteArray),ss=b.ah.drop j->j<=b.ah.length->ss.length<m->acc.length<=1000000000+j->eM true b.ah q m (j:Int) acc=q (acc++(ss.filter fun s=> !(s.Name==eS)).map (·.Name)):=by
   intro ss
   induction ss with
   | nil =>
    intro j m acc h1 h2 h3 h4
    have:j=b.ah.length:=by have:=congrArg List.length h1; simp at this; omega
    cases m with
    | zero=>simp at h3
    | succ m=>simp [eM,this]
   | cons s ss ih =>
    intro j m acc h1 h2 h3 h4
    have hj:j<b.ah.length:=by have:=congrArg List.length h1; simp at this; omega
    have P1:=cQ aq hj
    rw [← h1] at P1; injection P1 with Vq MK
    cases m with
    | zero=>simp at h3
    | succ m =>
     simp only [eM,bk,aG,hj,zV,zE,bf,zC,← Vq,Bool.true_and,List.filter_cons]
     rw [bM (by omega)]
     cases hs:s.Name==eS with
     | true =>
      simp only [zM,zF]
      rw [ih (j+1) m acc MK (by omega) (by simp at h3; omega) (by omega)]
      rfl
     | false =>
      simp only [zN,zE]
      rw [aj (cn (by rw [zK,zL]; omega)),ih (j+1) m _ MK (by omega) (by simp at h3; omega) (by rw [zK,zL]; omega),List.append_assoc]
      rfl
  have:=loop b.ah 0 m acc (by simp) (by omega) hm (by omega)
  simp only [o5,hd,zE]
  exact this
theorem I5 {n:Nat} (hn:bq<=n) (d:aa) (hd:iw d) (i:Int) (hp:∀ x∈d.ad,x.ax.length<=2) (hb:∀ b∈d.ab,b.ah.length<=4) (k:List ByteArray->Option R):tL n d i k=k (o0 d i):=by
 have Qe:d.ad.length<=2097152:=hd.di
 simp only [tL,iX,o0]
 cases hw:within i 1 d.ad.length with
 | false=>rfl
 | true =>
  rw [ak] at hw
  rw [bJ (by omega) (by omega),bu hw.1 hw.2]
  simp only [Bool.or_true,bf,zM,Bool.false_or,Bool.true_and]
  show (bif !((ai d i).Kind==2) then _ else _)=_
  cases hk:(ai d i).Kind==2 with
  | false=>rfl
  | true =>
   have KN:(ai d i).ax.length<=2:=hp _ (aV ay (by omega))
   have QJ:∀ p,(cP d p).1.ah.length<=4:=by
    intro p
    simp only [cP]
    cases h:within p 1 d.ab.length with
    | false=>exact Nat.zero_le _
    | true=>rw [ak] at h; exact hb _ (aV aA (by omega))
   simp only [zM,zF,zE]
   have:=ua (R:=R) (L:=jI d.au.ab d.au.bB d.ad d.ab (ai d i).ax (fun out=>k out)) (l:=(ai d i).ax) 0 (f:=fun p=>o5 (cP d p).1) (B:=100) (C:=4) (q:=fun out=>k out) (by omega)
    (fun p _=>Nat.le_trans (Gi _) (QJ p))
    (fun m j acc hm hj ha=>by
     simp only [jI,bk,aG,hj,zV,zE,bf,zC]
     rw [show (⟨⟨d.au.ab,d.au.bB⟩,d.ad,d.ab⟩:aa)=d from rfl,yz d hd.db]
     have h4:=QJ ((ai d i).ax.getD j 0)
     rw [CS _ (by omega) _ m (by omega) acc (by omega)]) (fun m acc=>by simp [jI]) (ai d i).ax.length n 0 [] (by omega) (aO hn (by omega)) (by simp)
   rw [List.drop_zero,List.nil_append] at this
   exact this
structure fy (m:Mem):Prop where
 d:ko m.aa
 dy:m.an.length=21
 dp:m.ae.length<=40
 n1:1<=m.Next
 n2:m.Next<=100000
 num:∀ x∈m.ae,bF m x=true
 bs:∀ x∈m.ae,x.ab.all (fun p=>within p 1 16)=true
 ym:∀ x∈m.ae,cC m x=true
 ids:m.ae.Pairwise fun a b=>¬ a.Id=b.Id
theorem uF {α:Type} {l:List α} (d:α) {P:α->α->Prop}:l.Pairwise P↔∀ i j,j<i->i<l.length->P (l.getD j d) (l.getD i d):=by
 rw [List.pairwise_iff_getElem]
 constructor
 ·intro h i j hj hi
  rw [fc _ _ hi,fc _ _ (by omega:j<l.length)]
  exact h j i (by omega) hi hj
 ·intro h i j hi hj Yf
  have:=h j i Yf hj
  rwa [fc _ _ hi,fc _ _ hj] at this
theorem lL {m:Mem}:fe m=true↔fy m:=by
 simp only [fe,zB,beq_iff_eq,zD,ak,kD]
 constructor
 ·rintro ⟨⟨h1,h2,h3,h4,h5⟩,h6⟩
  have h7:∀ i,i<m.ae.length->nr m i=true:=fun i hi=>lP h6 hi
  have h8:∀ x∈m.ae,∃ i,i<m.ae.length/\x=m.ae.getD i aT:=by
   intro x hx
   obtain ⟨i,hi,rfl⟩:=List.mem_iff_getElem.1 hx
   exact ⟨i,hi,(fc _ _ hi).symm⟩
  refine ⟨h1,h2,h3,h4,h5,?_,?_,?_,?_⟩
  ·intro x hx
   obtain ⟨i,hi,rfl⟩:=h8 x hx
   have:=h7 i hi
   simp only [nr,zB] at this
   exact this.1
  ·intro x hx
   obtain ⟨i,hi,rfl⟩:=h8 x hx
   have:=h7 i hi
   simp only [nr,zB] at this
   exact this.2.1
  ·intro x hx
   obtain ⟨i,hi,rfl⟩:=h8 x hx
   have:=h7 i hi
   simp only [nr,zB] at this
   exact this.2.2.2
  ·rw [uF aT]
   intro i j hj hi
   have:=h7 i hi
   simp only [nr,zB] at this
   have:=lP this.2.2.1 hj
   simpa using this
 ·intro h
  refine ⟨⟨h.d,h.dy,h.dp,h.n1,h.n2⟩,?_⟩
  rw [List.all_eq_true]
  intro i hi
  rw [List.mem_range'] at hi
  obtain ⟨i',rT,e⟩:=hi
  have e':i=i':=by omega
  subst e'
  have hm:m.ae.getD i aT∈m.ae:=aV aT rT
  simp only [nr,zB]
  refine ⟨h.num _ hm,h.bs _ hm,?_,h.ym _ hm⟩
  rw [List.all_eq_true]
  intro j hj
  rw [List.mem_range'] at hj
  obtain ⟨j',MI,e⟩:=hj
  have e':j=j':=by omega
  subst e'
  have:=(uF aT).1 h.ids i j MI rT
  simpa using this
def bP (u:Int) (y:List Bool):List Bool:=bif decide (0<=u)&&decide (u<y.length) then y.set u.toNat true else y
theorem ql (u:Int) (m:Mem):mark u m={ m with an:=bP u m.an }:=by
 simp only [mark,bP]
 cases decide (0<=u)&&decide (u<(m.an.length:Int))<;>rfl
theorem jF (u:Int) (d:aa) (y:List Bool) (p:List bO) (x:Int):mark u ⟨d,y,p,x⟩=⟨d,bP u y,p,x⟩:=ql u _
theorem cK (u:Int) (y:List Bool):(bP u y).length=y.length:=by
 simp only [bP]
 cases decide (0<=u)&&decide (u<(y.length:Int)) with
 | false=>rfl
 | true=>exact List.length_set
theorem fy.bP {m:Mem} (h:fy m) (u:Int):fy { m with an:=Soft.bP u m.an } :=
 ⟨h.d,(cK u m.an).trans h.dy,h.dp,h.n1,h.n2,h.num,h.bs,h.ym,h.ids⟩
theorem fy.bG {m:Mem} (h:fy m) {y:List Bool} (hy:y.length=21):fy { m with an:=y } :=
 ⟨h.d,hy,h.dp,h.n1,h.n2,h.num,h.bs,h.ym,h.ids⟩
theorem fy.less {m:Mem} (h:fy m) {l:List bO} (hl:l.Sublist m.ae):fy { m with ae:=l } :=
 ⟨h.d,h.dy,Nat.le_trans hl.length_le h.dp,h.n1,h.n2,fun x hx=>h.num x (hl.subset hx),fun x hx=>h.bs x (hl.subset hx),fun x hx=>h.ym x (hl.subset hx),h.ids.sublist hl⟩
theorem fy.drop {m:Mem} (h:fy m) (id:Int):fy (bd m id):=h.less List.filter_sublist
def eQ (id after:Int) (d:bO):bO:=bif (d.Kind==4)&&(d.bC==id) then { d with bC:=after } else d
def B9 (id after:Int) (y:List Bool) (d:bO):List Bool:=bif ((d.Kind==4)&&(d.bC==id))&&(after==0) then bP (aE d.Block) y else y
def shown (id after:Int) (m:Mem):Mem:=⟨m.aa,(bd m id).ae.foldl (B9 id after) m.an,(bd m id).ae.map (eQ id after),m.Next⟩
theorem oD {α:Type} {a:List α} {j:Nat} (d:α) (h:a.length=j) {x:α} {b:List α}:(a++x::b).getD j d=x:=by
 rw [zT,List.getElem?_append_right (by omega),h,Nat.sub_self]; rfl
theorem nD {α:Type} {a:List α} {j:Nat} (y:α) (h:a.length=j) {x:α} {b:List α}:(a++x::b).set j y=a++y::b:=by
 rw [List.set_append_right _ _ (by omega),h,Nat.sub_self]; rfl
theorem H7 (id after:Int) (bb bi:List Bool) (di:List aR) (db:List Block) (q:Int->List Bool->List bO->Option R) (next:Int) (l:List bO) (hl:l.length<=2097152) :
  ∀ (r j m:Nat) (y:List Bool),j+r=l.length->r<m ->
   fD id after bb bi di db q m (j:Int) next y ((l.take j).map (eQ id after)++l.drop j)=q next ((l.drop j).foldl (B9 id after) y) (l.map (eQ id after)):=by
 intro r
 induction r with
 | zero =>
  intro j m y hj hm
  cases m with
  | zero=>omega
  | succ m =>
   have:j=l.length:=by omega
   subst this
   simp [fD]
 | succ r ih =>
  intro j m y hj hm
  cases m with
  | zero=>omega
  | succ m =>
   have fP:j<l.length:=by omega
   have WA:((l.take j).map (eQ id after)).length=j:=by simp; omega
   have Yw:(l.take (j+1)).map (eQ id after)=(l.take j).map (eQ id after)++[eQ id after (l.getD j aT)]:=by
    rw [List.take_succ_eq_append_getElem fP,List.map_append,List.map_singleton,fc _ _ fP]
   have xj:=ih (j+1) m
   rw [Yw,List.append_assoc,List.singleton_append] at xj
   rw [cQ aT fP,List.foldl_cons]
   have htl:(l.drop (j+1)).length=l.length-(j+1):=List.length_drop
   generalize (l.take j).map (eQ id after)=a at WA xj ⊢
   generalize l.getD j aT=x at xj ⊢
   generalize l.drop (j+1)=b at htl xj ⊢
   have hlen:∀ z:bO,(a++z::b).length=l.length:=fun z=>by simp only [zK,zR]; omega
   simp only [fD,zC]
   rw [oD _ WA,nD _ WA,oD _ WA,hlen,hlen,bk,aG,bM (by omega)]
   simp only [fP,zV,zE,bf,Bool.or_true]
   cases hc:(x.Kind==4)&&(x.bC==id) with
   | false =>
    have ha:eQ id after x=x:=by simp only [eQ,hc,zF]
    have hb:B9 id after y x=y:=by simp only [B9,hc,Bool.false_and,zF]
    rw [ha] at xj
    rw [zF,hb]
    exact xj y (by omega) (by omega)
   | true =>
    have ha:eQ id after x={ x with bC:=after }:=by simp only [eQ,hc,zE]
    rw [ha] at xj
    rw [zE]
    cases h0:after==0 with
    | false =>
     have hb:B9 id after y x=y:=by simp only [B9,hc,h0,Bool.and_false,zF]
     rw [zF,hb]
     exact xj y (by omega) (by omega)
    | true =>
     have hb:B9 id after y x=bP (aE x.Block) y:=by simp only [B9,hc,h0,Bool.and_true,zE]
     rw [zE,dV,dk,jF,hb]
     exact xj _ (by omega) (by omega)
theorem yI {n:Nat} (hn:bq<=n) (m:Mem) (hm:eU m) (id after:Int) (k:Mem->Option R):od n id after m k=k (shown id after m):=by
 have Wu:m.ae.length<=2097152:=hm.dp
 have hle:(bd m id).ae.length<=m.ae.length:=List.length_filter_le _ _
 simp only [od]
 rw [oA hn m hm]
 exact (H7 (R:=R) id after _ _ _ _ _ m.Next (bd m id).ae (by omega) (bd m id).ae.length 0 n m.an (by omega) (aO hn (by omega))).trans rfl
theorem vR {m m':Mem} (h:m.Next<=m'.Next) {d:bO} (hd:bF m d=true):bF m' d=true:=by
 simp only [bF,zB,ak] at hd ⊢
 obtain ⟨h1,h2,h3,h4,h5,h6,h7⟩:=hd
 exact ⟨⟨h1.1,by omega⟩,h2,h3,h4,h5,h6,h7.1,by omega⟩
theorem fy.put {m:Mem} (h:fy m) (d:bO) (hn:bF { m with Next:=m.Next+1 } { d with Id:=m.Next }=true) (hb:d.ab.all (fun p=>within p 1 16)=true) (hk:cC m d=true):fy (dz m d).1:=by
 simp only [dz]
 cases hp:fv m with
 | false=>exact h
 | true =>
  simp only [fv,zB,zD,ak] at hp
  have eE:∀ x∈m.ae++[{ d with Id:=m.Next }],x∈m.ae\/x={ d with Id:=m.Next }:=by
   intro x hx
   simpa using hx
  refine ⟨h.d,h.dy,?_,?_,?_,?_,?_,?_,?_⟩
  ·show (m.ae++[_]).length<=40
   rw [zK,zL]; omega
  ·show 1<=m.Next+1; omega
  ·show m.Next+1<=100000; omega
  ·intro x hx
   rcases eE x hx with hx | rfl
   ·exact vR (m:=m) (by show m.Next<=m.Next+1; omega) (h.num x hx)
   ·exact hn
  ·intro x hx
   rcases eE x hx with hx | rfl
   ·exact h.bs x hx
   ·exact hb
  ·intro x hx
   rcases eE x hx with hx | rfl
   ·exact h.ym x hx
   ·exact hk
  ·show (m.ae++[_]).Pairwise _
   rw [List.pairwise_append]
   refine ⟨h.ids,List.pairwise_singleton _ _,fun a ha b hb=> ?_⟩
   rw [zS] at hb
   subst hb
   have:=h.num a ha
   simp only [bF,zB,ak] at this
   show ¬ a.Id=m.Next
   omega
theorem mem_set {α:Type} {l:List α} {i:Nat} {a x:α} (h:x∈l.set i a):x∈l\/x=a:=List.mem_or_eq_of_mem_set h
theorem D1 {d:aa} {l:List aR} {i j:Int} {x:aR} (h1:1<=i) (h2:i<=l.length) (j1:1<=j):ai { d with ad:=l.set (i-1).toNat x } j=bif j==i then x else l.getD (j-1).toNat ay:=by
 show (l.set (i-1).toNat x).getD (j-1).toNat ay=_
 cases h:j==i with
 | true =>
  have:j=i:=by simpa using h
  subst this
  simp only [zE]
  rw [zT,List.getElem?_set_self (by omega)]; rfl
 | false =>
  have cL:¬ j=i:=by simpa using h
  simp only [zF]
  rw [zT,List.getElem?_set_ne (by omega),← zT]
theorem yh {d:aa} {l:List Block} {i j:Int} {x:Block} (h1:1<=i) (h2:i<=l.length) (j1:1<=j):aH { d with ab:=l.set (i-1).toNat x } j=bif j==i then x else l.getD (j-1).toNat aA:=by
 show (l.set (i-1).toNat x).getD (j-1).toNat aA=_
 cases h:j==i with
 | true =>
  have:j=i:=by simpa using h
  subst this
  simp only [zE]
  rw [zT,List.getElem?_set_self (by omega)]; rfl
 | false =>
  have cL:¬ j=i:=by simpa using h
  simp only [zF]
  rw [zT,List.getElem?_set_ne (by omega),← zT]
theorem fy.m4 {m:Mem} (h:fy m) {i:Int} (h1:1<=i) (h2:i<=8) {x:aR} (hx:bj x=true)
  (hd:∀ d∈m.ae,(d.Kind==1||d.Kind==6)=true->d.Ino=i->(x.ax.getD d.Ptr.toNat 0==d.Block)=true) :
  fy { m with aa:={ m.aa with ad:=m.aa.ad.set (i-1).toNat x } }:=by
 refine ⟨⟨h.d.bb,h.d.bi,List.length_set.trans h.d.di,h.d.db,?_,h.d.oO⟩,h.dy,h.dp,h.n1,h.n2,h.num,h.bs,?_,h.ids⟩
 ·intro y hy
  rcases mem_set hy with hy | rfl
  ·exact h.d.ino y hy
  ·exact hx
 ·intro d zo
  have hk:=h.ym d zo
  have hn:=h.num d zo
  simp only [bF,zB,ak] at hn
  simp only [cC] at hk ⊢
  cases hc:(d.Kind==1)||(d.Kind==6) with
  | false =>
   simp only [hc,zF] at hk ⊢
   exact hk
  | true =>
   simp only [hc,zE,zB] at hk ⊢
   refine ⟨hk.1,?_⟩
   rw [D1 h1 (by rw [h.d.di]; exact h2) (by omega)]
   cases he:d.Ino==i with
   | true=>exact hd d zo hc (by simpa using he)
   | false=>exact hk.2
theorem fy.pI {m:Mem} (h:fy m) {p:Int} (h1:1<=p) (h2:p<=16) {b:Block} (hb:bw b=true)
  (hd:∀ d∈m.ae,(d.Kind==2||d.Kind==3)=true->d.Block=p->b.bZ=true/\((b.ah.getD d.Slot.toNat aq).Ino==d.Ino)=true)
  (h4:∀ d∈m.ae,(d.Kind==4)=true->d.Block=p->b.bZ=true) :
  fy { m with aa:={ m.aa with ab:=m.aa.ab.set (p-1).toNat b } }:=by
 refine ⟨⟨h.d.bb,h.d.bi,h.d.di,List.length_set.trans h.d.db,h.d.ino,?_⟩,h.dy,h.dp,h.n1,h.n2,h.num,h.bs,?_,h.ids⟩
 ·intro y hy
  rcases mem_set hy with hy | rfl
  ·exact h.d.oO y hy
  ·exact hb
 ·intro d zo
  have hk:=h.ym d zo
  simp only [cC] at hk ⊢
  cases hc:(d.Kind==1)||(d.Kind==6) with
  | true =>
   simp only [hc,zE] at hk ⊢
   exact hk
  | false =>
   simp only [hc,zF] at hk ⊢
   cases fJ:(d.Kind==2)||(d.Kind==3) with
   | true =>
    simp only [fJ,zE,zB,zD] at hk ⊢
    rw [yh h1 (by rw [h.d.db]; exact h2) (by omega)]
    cases he:d.Block==p with
    | true =>
     have:=hd d zo fJ (by simpa using he)
     exact ⟨⟨hk.1.1,this.1⟩,this.2⟩
    | false=>exact hk
   | false =>
    simp only [fJ,zF] at hk ⊢
    cases ja:d.Kind==4 with
    | false=>rfl
    | true =>
     simp only [ja,zE,zB,zD] at hk ⊢
     rw [yh h1 (by rw [h.d.db]; exact h2) (by omega)]
     cases he:d.Block==p with
     | true=>exact ⟨⟨hk.1.1,h4 d zo ja (by simpa using he)⟩,hk.2⟩
     | false=>exact hk
theorem fy.tT {m:Mem} (h:fy m) {bb bi:List Bool} (h1:bb.length=16) (h2:bi.length=8):fy { m with aa:={ m.aa with au:=⟨bb,bi⟩ } } :=
 ⟨⟨h1,h2,h.d.di,h.d.db,h.d.ino,h.d.oO⟩,h.dy,h.dp,h.n1,h.n2,h.num,h.bs,h.ym,h.ids⟩
def stays (i:Int) (d:bO):Bool:=((!(d.Kind==1))&&(!(d.Kind==6)))||(!(d.Ino==i))
theorem RL {n:Nat} (hn:bq<=n) (i:Int) (l:List bO) (hl:l.length<=cO) (q:List bO->Option R):eL i l q n 0 []=q (l.filter (stays i)):=by
 have yw:l.length<=2097152:=hl
 exact pg (R:=R) (L:=eL i l q) (l:=l) aT (P:=stays i) (B:=0) (q:=q) (by omega)
  (fun m j acc _ hi ha=>by
   simp only [eL,bk,aG,hi,zV,bf,zE,zC,Bool.or_true,stays]
   rw [aj (cm ha (by omega) (by simp))]) (fun m acc=>by simp [eL]) (n:=n) (aO hn (by omega))
theorem Og {n:Nat} (hn:bq<=n) (v:Nat) (di:List aR) (hl:(di.getD v ay).ax.length<=cO) (q:List Int->Option R):dS v di q n 0 []=q ((di.getD v ay).ax.filter fun p=>decide (0<p)):=by
 have yw:(di.getD v ay).ax.length<=2097152:=hl
 exact pg (R:=R) (L:=dS v di q) (l:=(di.getD v ay).ax) 0 (P:=fun p=>decide (0<p)) (B:=0) (q:=q) (by omega)
  (fun m j acc _ hi ha=>by
   simp only [dS,bk,aG,hi,zV,bf,zE,zC]
   rw [aj (cm ha (by omega) (by simp))]) (fun m acc=>by simp [dS]) (n:=n) (aO hn (by omega))
def gB (x:aR):aR:=bif decide (0<x.Links) then ⟨x.Kind,x.Links-1,x.ax⟩ else x
def aP (d:aa) (i:Int) (x:aR):aa:={ d with ad:=d.ad.set (i-1).toNat x }
def ca (d:aa) (p:Int) (b:Block):aa:={ d with ab:=d.ab.set (p-1).toNat b }
def iC (i:Int) (m:Mem):Mem :=
 bif decide (40<=(m.ae.length:Int))|| !within m.Next 1 99999 then m else
 bif decide (0<(gB (ai m.aa i)).Links)||((gB (ai m.aa i)).Kind==0) then ⟨aP m.aa i (gB (ai m.aa i)),bP (aK i) m.an,m.ae,m.Next⟩ else
 (dz ⟨aP m.aa i (aY 0),bP (aK i) m.an,m.ae.filter (stays i),m.Next⟩ ⟨0,5,i,0,0,0,eS,false,false,0,(ai m.aa i).ax.filter fun p=>decide (0<p)⟩).1
theorem Hi {x:aR} (h:bj x=true):bj (gB x)=true:=by
 simp only [gB]
 cases hl:decide (0<x.Links) with
 | false=>exact h
 | true =>
  simp only [bj,zB,ak,zD,zE] at h hl ⊢
  refine ⟨h.1,⟨by omega,by omega⟩,h.2.2.1,h.2.2.2.1,?_⟩
  have:=h.2.2.2.2
  cases hk:x.Kind != 0 with
  | true=>rfl
  | false =>
   rw [hk,Bool.false_or,beq_iff_eq] at this
   omega
theorem H5 (x:aR):(gB x).ax=x.ax:=by
 simp only [gB]; cases decide (0<x.Links)<;>rfl
theorem wP:bj (aY 0)=true:=by decide
theorem AO {n:Nat} (hn:bq<=n) (m:Mem) (hm:eU m) (i:Int) (h1:1<=i) (h2:i<=m.aa.ad.length) (hk:within (ai m.aa i).Links 0 200=true) (hp:(ai m.aa i).ax.length<=cO) (k:Mem->Option R) :
  lK n i m k=k (iC i m):=by
 have Wu:m.ae.length<=2097152:=hm.dp
 have Qe:m.aa.ad.length<=2097152:=hm.d.di
 simp only [lK,iX,iC]
 cases hc:decide (40<=(m.ae.length:Int)) with
 | true=>rfl
 | false =>
 cases hw:within m.Next 1 99999 with
 | false=>rfl
 | true =>
 rw [ak] at hk
 simp only [zN,zM,zE,zF,Bool.or_false]
 rw [bJ (by omega) (by omega),aj (bu h1 h2)]
 have e0:m.aa.ad.getD (i-1).toNat ay=ai m.aa i:=rfl
 rw [e0,vp _ hp,gm,dk,ql]
 have fin:∀ (x:aR),x.ax=(ai m.aa i).ax ->
   eL i m.ae (fun list=>dS (i-1).toNat (m.aa.ad.set (i-1).toNat x) (fun blocks =>
    dW 0 fun M1=>aJ (aZ (i-1) (m.aa.ad.set (i-1).toNat x).length) <|
    iA n ⟨⟨m.aa.au,(m.aa.ad.set (i-1).toNat x).set (i-1).toNat M1,m.aa.ab⟩,bP (aK i) m.an,list,m.Next⟩ ⟨0,5,i,0,0,0,eS,false,false,0,blocks⟩ fun ba dQ=>k ba) n 0 []) n 0 [] =
   k (dz ⟨aP m.aa i (aY 0),bP (aK i) m.an,m.ae.filter (stays i),m.Next⟩ ⟨0,5,i,0,0,0,eS,false,false,0,(ai m.aa i).ax.filter fun p=>decide (0<p)⟩).1:=by
  intro x hx
  have eg:(m.aa.ad.set (i-1).toNat x).getD (i-1).toNat ay=x:=by
   rw [zT,List.getElem?_set_self (by omega)]; rfl
  rw [RL hn i _ hm.dp,Og hn _ _ (by rw [eg,hx]; exact hp),eg,hx,jf,aj (bu h1 (by rw [List.length_set]; exact h2)),List.set_set]
  rw [pX hn]
  ·rfl
  ·refine ⟨⟨hm.d.bb,hm.d.bi,by show (List.set _ _ _).length<=cO; rw [List.length_set]; exact hm.d.di,hm.d.db,?_,hm.d.oO⟩,by show (bP _ _).length<=cO; rw [cK]; exact hm.dy,Nat.le_trans (List.length_filter_le _ _) hm.dp,fun d hd=>hm.dep d ((List.mem_filter.1 hd).1)⟩
   intro y hy
   rcases mem_set hy with hy | rfl
   ·exact hm.d.ino y hy
   ·show (2:Nat)<=cO; decide
  ·exact Nat.le_trans (List.length_filter_le _ _) hp
 cases hl:decide (0<(ai m.aa i).Links) with
 | false =>
  have ef:gB (ai m.aa i)=ai m.aa i:=by simp only [gB,hl,zF]
  simp only [zF]
  rw [aj (bu h1 h2),ef]
  cases hz:decide (0<(ai m.aa i).Links)||((ai m.aa i).Kind==0) with
  | true=>rw [hl] at hz; simp only [hl,hz,zE]; rfl
  | false =>
   rw [hl] at hz; simp only [hl,hz,zF]
   exact fin _ rfl
 | true =>
  rw [zD] at hl
  have ef:gB (ai m.aa i)=⟨(ai m.aa i).Kind,(ai m.aa i).Links-1,(ai m.aa i).ax⟩:=by simp only [gB,hl,zV,zE]
  simp only [zE]
  rw [aj (bu h1 h2),ef,cq (by omega) (by omega)]
  cases hz:decide (0<(ai m.aa i).Links-1)||((ai m.aa i).Kind==0) with
  | true=>rfl
  | false=>exact fin ⟨(ai m.aa i).Kind,(ai m.aa i).Links-1,(ai m.aa i).ax⟩ rfl
theorem yH (m:Mem) (d:bO):(dz m d).1.aa=m.aa:=by
 simp only [dz]; cases fv m<;>rfl
theorem fy.iC {m:Mem} (h:fy m) {i:Int} (h1:1<=i) (h2:i<=8):fy (Soft.iC i m):=by
 simp only [Soft.iC]
 cases hc:decide (40<=(m.ae.length:Int))|| !within m.Next 1 99999 with
 | true=>exact h
 | false =>
  have hx:=h.d.sF h1 h2
  have hpt:∀ d∈m.ae,(d.Kind==1||d.Kind==6)=true->d.Ino=i->((ai m.aa i).ax.getD d.Ptr.toNat 0==d.Block)=true:=by
   intro d hd hk he
   have:=h.ym d hd
   simp only [cC,hk,zE,zB,he] at this
   exact this.2
  simp only [zF]
  cases hz:decide (0<(gB (ai m.aa i)).Links)||((gB (ai m.aa i)).Kind==0) with
  | true =>
   have:=h.m4 h1 h2 (Hi hx) (fun d hd hk he=>by rw [H5]; exact hpt d hd hk he)
   exact this.bP (aK i)
  | false =>
   have h3:fy { m with ae:=m.ae.filter (stays i) }:=h.less List.filter_sublist
   have h4:=h3.m4 h1 h2 wP (fun d hd hk he=>by
    have:=(List.mem_filter.1 hd).2
    simp only [stays,he,beq_self_eq_true,zM,Bool.or_false,zB,Bool.not_eq_true'] at this
    rw [this.1,this.2] at hk
    cases hk)
   have h5:=h4.bP (aK i)
   have hw:within m.Next 1 99999=true:=by
    rw [Bool.or_eq_false_iff] at hc
    simpa using hc.2
   rw [ak] at hw
   refine h5.put _ ?_ ?_ ?_
   ·simp only [bF,zB,ak]
    refine ⟨⟨by omega,by omega⟩,⟨by decide,by decide⟩,⟨h1,h2⟩,⟨by decide,by decide⟩,⟨by decide,by decide⟩,⟨by decide,by decide⟩,by decide,by omega⟩
   ·rw [List.all_eq_true]
    intro p hp
    rw [List.mem_filter,zD] at hp
    simp only [bj,zB,List.all_eq_true,ak] at hx
    have:=(hx.2.2.2.1 p hp.1).1
    rw [ak]; omega
   ·rfl
theorem xS {S:Type} {L:Nat->Int->S->Option R} {g:Nat->S->S} {q:S->Option R} {B:Nat}
  (hq:∀ m acc,B<m->L m (-1) acc=q acc):∀ (len n:Nat) (acc:S),(∀ m i acc,i<len->B<m->L (m+1) (i:Int) acc=L m ((i:Int)-1) (g i acc))->len+B<n ->
   L n ((len:Int)-1) acc=q ((List.range' 0 len).reverse.foldl (fun a i=>g i a) acc)
 | 0,n,acc,hs,hn=>hq n acc (by omega)
 | len+1,n,acc,hs,hn=>by
  cases n with
  | zero=>omega
  | succ n =>
   have e:((len+1:Nat):Int)-1=(len:Int):=by omega
   rw [e,hs n len acc (by omega) (by omega),xS hq len n _ (fun m i acc hi hm=>hs m i acc (by omega) hm) (by omega)]
   rw [List.range'_concat,List.reverse_append]
   simp
def k7 (m:Mem) (p:Int) (s:Nat):Bool :=
 (((((aH m.aa p).ah.getD s aq).Name)==eS)&&(((aH m.aa p).ah.getD s aq).Ino==0))&&(fQ m p s==0)
def lD (m:Mem) (p:Int) (acc:Int×Int):Int×Int :=
 bif within p 1 m.aa.ab.length&&(aH m.aa p).bZ then (List.range' 0 (aH m.aa p).ah.length).reverse.foldl (fun a s=>bif k7 m p s then (p,(s:Int)) else a) acc else acc
def nu (m:Mem) (l:List Int):Int×Int:=(List.range' 0 l.length).reverse.foldl (fun a i=>lD m (l.getD i 0) a) (0,0)
theorem Oq {n:Nat} (hn:bq<=n) (m0:Mem) (hm:m0.ae.length<=cO) (x:Nat) (v:Nat) (hx:x<(m0.aa.ad.getD v ay).ax.length) (w:Nat)
  (hw:w=(((m0.aa.ad.getD v ay).ax.getD x 0)-1).toNat) (hb:(m0.aa.ab.getD w aA).ah.length<=cO) (hd:(m0.aa.ab.getD w aA).bZ=true) (q:Int->Int->Option R) (acc:Int×Int) (m:Nat) (SQ:cO<m) :
  fG n (x:Int) true m0.Next v true w m0.aa.au.ab m0.aa.au.bB m0.aa.ad m0.aa.ab m0.an m0.ae q m acc.1 acc.2 (aC (((m0.aa.ab.getD w aA).ah.length:Int)-1)) =
   q ((List.range' 0 (m0.aa.ab.getD w aA).ah.length).reverse.foldl (fun a s=>bif k7 m0 ((m0.aa.ad.getD v ay).ax.getD x 0) s then ((m0.aa.ad.getD v ay).ax.getD x 0,(s:Int)) else a) acc).1
    ((List.range' 0 (m0.aa.ab.getD w aA).ah.length).reverse.foldl (fun a s=>bif k7 m0 ((m0.aa.ad.getD v ay).ax.getD x 0) s then ((m0.aa.ad.getD v ay).ax.getD x 0,(s:Int)) else a) acc).2:=by
 have JE:(m0.aa.ab.getD w aA).ah.length<=2097152:=hb
 have hm2:2097152<m:=SQ
 have ew:m0.aa.ab.getD w aA=aH m0.aa ((m0.aa.ad.getD v ay).ax.getD x 0):=by rw [hw]; rfl
 generalize hp:(m0.aa.ad.getD v ay).ax.getD x 0=p at ew hw ⊢
 rw [cq (by omega) (by omega)]
 refine xS (R:=R) (S:=Int×Int) (L:=fun m s acc=>fG n (x:Int) true m0.Next v true w m0.aa.au.ab m0.aa.au.bB m0.aa.ad m0.aa.ab m0.an m0.ae q m acc.1 acc.2 s)
  (g:=fun s a=>bif k7 m0 p s then (p,(s:Int)) else a) (q:=fun a=>q a.1 a.2) (B:=0) ?_ _ _ _ ?_ (by omega)
 ·intro m acc hm
  cases m with
  | zero=>omega
  | succ m=>rfl
 ·intro m s acc hs _
  have h0:decide ((0:Int)<=(s:Int))=true:=decide_eq_true (by omega)
  simp only [fG,h0,Bool.and_true,zE,aG,hs,hx,zV,bf,Bool.or_true,zC,hp]
  have ed:=AX (R:=R) hn m0 hm p s
  refine (ed _).trans ?_
  simp only [k7]
  rw [cq (by omega) (by omega),← ew]
  cases ((((m0.aa.ab.getD w aA).ah.getD s aq).Name)==eS)&&(((m0.aa.ab.getD w aA).ah.getD s aq).Ino==0) with
  | false=>rfl
  | true=>cases h:fQ m0 p s==0<;>simp [h]
theorem U1 {n:Nat} (hn:bq<=n) (m0:Mem) (hm:eU m0) (v:Nat) (hl:(m0.aa.ad.getD v ay).ax.length<=cO) (q:Int->Int->Option R) :
  hY n m0.Next v m0.aa.au.ab m0.aa.au.bB m0.aa.ad m0.aa.ab m0.an m0.ae q n 0 0 (aC (((m0.aa.ad.getD v ay).ax.length:Int)-1)) =
   q (nu m0 (m0.aa.ad.getD v ay).ax).1 (nu m0 (m0.aa.ad.getD v ay).ax).2:=by
 have yw:(m0.aa.ad.getD v ay).ax.length<=2097152:=hl
 have SB:m0.aa.ab.length<=2097152:=hm.d.db
 have Nd:100000000<=n:=hn
 rw [cq (by omega) (by omega)]
 refine xS (R:=R) (S:=Int×Int) (L:=fun m x acc=>hY n m0.Next v m0.aa.au.ab m0.aa.au.bB m0.aa.ad m0.aa.ab m0.an m0.ae q m acc.1 acc.2 x)
  (g:=fun i a=>lD m0 ((m0.aa.ad.getD v ay).ax.getD i 0) a) (q:=fun a=>q a.1 a.2) (B:=2097152) ?_ _ n (0,0) ?_ (by omega)
 ·intro m acc hm
  cases m with
  | zero=>omega
  | succ m=>rfl
 ·intro m x acc hx SQ
  have h0:decide ((0:Int)<=(x:Int))=true:=decide_eq_true (by omega)
  obtain ⟨m',rfl⟩:∃ m',m=m'+1:=⟨m-1,by omega⟩
  rw [hY]
  simp only [h0,zE,aG,hx,zV,bf,zC,tj,iX]
  rw [cq (n:=(x:Int)-1) (by omega) (by omega)]
  generalize hp:(m0.aa.ad.getD v ay).ax.getD x 0=p
  cases hw:within p 1 (m0.aa.ab.length:Int) with
  | false =>
   have e:lD m0 p acc=acc:=by simp only [lD,hw,Bool.false_and,zF]
   rw [e]
   simp only [zN,zE,mM,Bool.and_false,Bool.false_and,zF]
  | true =>
   have XR:=ak.1 hw
   simp only [zM,zF]
   rw [bJ (by omega) (by omega),aj (bu XR.1 XR.2)]
   have eb:m0.aa.ab.getD (p-1).toNat aA=aH m0.aa p:=rfl
   have mn:=hm.d.oO _ (aV aA (l:=m0.aa.ab) (i:=(p-1).toNat) (by omega))
   cases hd:(aH m0.aa p).bZ with
   | false =>
    have e:lD m0 p acc=acc:=by simp only [lD,hw,hd,Bool.and_false,zF]
    rw [e,eb,hd]
    simp only [fG,Bool.and_false,Bool.false_and,zF]
   | true =>
    have e:lD m0 p acc=(List.range' 0 (aH m0.aa p).ah.length).reverse.foldl (fun a s=>bif k7 m0 p s then (p,(s:Int)) else a) acc:=by simp only [lD,hw,hd,Bool.and_true,zE]
    rw [e,eb,hd]
    have:=Oq (R:=R) hn m0 hm.dp x v hx (p-1).toNat (by rw [hp]) mn.1 (by rw [eb,hd])
     (fun Fo Jp=>hY n m0.Next v m0.aa.au.ab m0.aa.au.bB m0.aa.ad m0.aa.ab m0.an m0.ae q (m'+1) Fo Jp ((x:Int)-1)) acc (m'+1) SQ
    rw [hp,eb] at this
    exact this
structure oJ (m:Mem) (p s:Int):Prop where
 p1:1<=p
 p2:p<=m.aa.ab.length
 dir:(aH m.aa p).bZ=true
 s0:0<=s
 s1:s<(aH m.aa p).ah.length
 free:k7 m p s.toNat=true
theorem Oz {m:Mem} {p:Int} {acc:Int×Int} (h:acc=(0,0)\/oJ m acc.1 acc.2):lD m p acc=(0,0)\/oJ m (lD m p acc).1 (lD m p acc).2:=by
 simp only [lD]
 cases hc:within p 1 m.aa.ab.length&&(aH m.aa p).bZ with
 | false=>exact h
 | true =>
  rw [zB,ak] at hc
  simp only [zE]
  have:∀ (l:List Nat) (acc:Int×Int),(∀ s∈l,s<(aH m.aa p).ah.length)->(acc=(0,0)\/oJ m acc.1 acc.2) ->
    (l.foldl (fun a (s:Nat)=>bif k7 m p s then (p,(s:Int)) else a) acc=(0,0)\/oJ m (l.foldl (fun a (s:Nat)=>bif k7 m p s then (p,(s:Int)) else a) acc).1 (l.foldl (fun a (s:Nat)=>bif k7 m p s then (p,(s:Int)) else a) acc).2):=by
   intro l
   induction l with
   | nil=>intro acc _ h; exact h
   | cons s l ih =>
    intro acc hl h
    rw [List.foldl_cons]
    refine ih _ (fun s hs=>hl s (zJ _ hs)) ?_
    cases hf:k7 m p s with
    | false=>exact h
    | true=>exact Or.inr ⟨hc.1.1,hc.1.2,hc.2,by show (0:Int)<=(s:Int); omega,by show (s:Int)<((aH m.aa p).ah.length:Int); have:=hl s (zO ..); omega,hf⟩
  refine this _ acc (fun s hs=> ?_) h
  rw [List.mem_reverse,List.mem_range'] at hs
  obtain ⟨i,hi,rfl⟩:=hs
  omega
theorem Aq (m:Mem) (l:List Int):nu m l=(0,0)\/oJ m (nu m l).1 (nu m l).2:=by
 have:∀ (r:List Nat) (acc:Int×Int),(acc=(0,0)\/oJ m acc.1 acc.2)->(r.foldl (fun a i=>lD m (l.getD i 0) a) acc=(0,0)\/oJ m (r.foldl (fun a i=>lD m (l.getD i 0) a) acc).1 (r.foldl (fun a i=>lD m (l.getD i 0) a) acc).2):=by
  intro r
  induction r with
  | nil=>intro acc h; exact h
  | cons i r ih=>intro acc h; rw [List.foldl_cons]; exact ih _ (Oz h)
 exact this _ (0,0) (Or.inl rfl)
def py (s:Slot):Bool:=(s.Name==eS&&s.Ino==0)||(bH s.Name&&within s.Ino 1 8)
def fY (b:Block):Bool:=bif b.bZ then (b.ah.length==4&&b.Text==eS)&&b.ah.all py else b.ah.length==0&&decide (b.Text.size<=16)
theorem Lc {b:Block} (h:bw b=true):fY b=true:=by
 simp only [bw,fY] at h ⊢
 cases hd:b.bZ with
 | false=>rw [hd] at h; exact h
 | true =>
  simp only [hd,zE,zB] at h ⊢
  refine ⟨h.1,?_⟩
  rw [List.all_eq_true]
  intro s hs
  obtain ⟨i,hi,rfl⟩:=List.mem_iff_getElem.1 hs
  have h4:b.ah.length=4:=by simpa using h.1.1
  have:=lP h.2 (i:=i) (by omega)
  simp only [rG,Bool.or_eq_true,zB,fc _ _ hi] at this
  simp only [py,Bool.or_eq_true,zB]
  exact this.imp id (fun h=>h.1)
theorem DT {b:Block} (h:fY b=true):tB b:=by
 simp only [fY] at h
 cases hd:b.bZ with
 | false =>
  simp only [hd,zF,zB,beq_iff_eq,zD] at h
  have h0:b.ah=[]:=List.length_eq_zero_iff.1 h.1
  exact ⟨by rw [h0]; exact Nat.zero_le _,Nat.le_trans h.2 (by decide),by rw [h0]; intro s hs; cases hs⟩
 | true =>
  simp only [hd,zE,zB,beq_iff_eq,List.all_eq_true] at h
  obtain ⟨⟨h1,h2⟩,h3⟩:=h
  refine ⟨by rw [h1]; decide,by rw [h2]; decide,fun s hs=> ?_⟩
  have:=h3 s hs
  simp only [py,Bool.or_eq_true,zB,beq_iff_eq] at this
  rcases this with h | h
  ·show s.Name.size<=cO; rw [h.1]; decide
  ·exact Nat.le_trans (eP h.1).2 (by decide)
theorem dh {b:Block} (h:fY b=true) (hd:b.bZ=true):b.ah.length=4:=by
 simp only [fY,hd,zE,zB,beq_iff_eq] at h
 exact h.1.1
theorem td {b:Block} (h:fY b=true) (hd:b.bZ=true) {s:Slot} (hs:s∈b.ah):py s=true:=by
 simp only [fY,hd,zE,zB,List.all_eq_true] at h
 exact h.2 s hs
theorem vA {b:Block} (h:fY b=true) (hd:b.bZ=true) (i:Nat) {s:Slot} (hs:py s=true):fY ⟨b.bZ,b.ah.set i s,b.Text⟩=true:=by
 simp only [fY,hd,zE,zB,List.all_eq_true,List.length_set] at h ⊢
 exact ⟨h.1,fun x hx=>(mem_set hx).elim (h.2 x) (fun e=>e▸hs)⟩
structure cE (d:aa):Prop where
 bb:d.au.ab.length=16
 bi:d.au.bB.length=8
 di:d.ad.length=8
 db:d.ab.length=16
 ino:∀ x∈d.ad,bj x=true
 oO:∀ b∈d.ab,fY b=true
theorem ko.t {d:aa} (h:ko d):cE d:=⟨h.bb,h.bi,h.di,h.db,h.ino,fun b hb=>Lc (h.oO b hb)⟩
theorem cE.sz {d:aa} (h:cE d):iw d:=by
 refine ⟨by rw [h.bb]; decide,by rw [h.bi]; decide,by rw [h.di]; decide,by rw [h.db]; decide,fun x hx=> ?_,fun b hb=>DT (h.oO b hb)⟩
 show x.ax.length<=cO
 rw [js (h.ino x hx)]; decide
theorem cE.sF {d:aa} (h:cE d) {i:Int} (h1:1<=i) (h2:i<=8):bj (ai d i)=true:=h.ino _ (aV ay (by rw [h.di]; omega))
theorem cE.nz {d:aa} (h:cE d) {p:Int} (h1:1<=p) (h2:p<=16):fY (aH d p)=true:=h.oO _ (aV aA (by rw [h.db]; omega))
theorem cE.rK {d:aa} (h:cE d) {i:Int} (h1:1<=i) (h2:i<=8):(ai d i).ax.length=2:=js (h.sF h1 h2)
structure cD (m:Mem):Prop where
 d:cE m.aa
 dy:m.an.length=21
 dp:m.ae.length<=40
 n1:1<=m.Next
 n2:m.Next<=100000
 num:∀ x∈m.ae,bF m x=true
 bs:∀ x∈m.ae,x.ab.all (fun p=>within p 1 16)=true
 sz:∀ x∈m.ae,ru x
theorem cD.Et {m:Mem} (h:cD m):eU m:=⟨h.d.sz,by rw [h.dy]; decide,Nat.le_trans h.dp (by decide),h.sz⟩
theorem cD.bG {m:Mem} (h:cD m) {y:List Bool} (hy:y.length=21):cD { m with an:=y }:=⟨h.d,hy,h.dp,h.n1,h.n2,h.num,h.bs,h.sz⟩
theorem cD.mark {m:Mem} (h:cD m) (u:Int):cD { m with an:=bP u m.an }:=h.bG ((cK u _).trans h.dy)
theorem cD.ye {m:Mem} (h:cD m) {d:aa} (hd:cE d):cD { m with aa:=d }:=⟨hd,h.dy,h.dp,h.n1,h.n2,h.num,h.bs,h.sz⟩
theorem cD.less {m:Mem} (h:cD m) {l:List bO} (hl:l.Sublist m.ae):cD { m with ae:=l } :=
 ⟨h.d,h.dy,Nat.le_trans hl.length_le h.dp,h.n1,h.n2,fun x hx=>h.num x (hl.subset hx),fun x hx=>h.bs x (hl.subset hx),fun x hx=>h.sz x (hl.subset hx)⟩
theorem cD.drop {m:Mem} (h:cD m) (id:Int):cD (bd m id):=h.less List.filter_sublist
theorem cD.put {m:Mem} (h:cD m) (d:bO) (hn:bF { m with Next:=m.Next+1 } { d with Id:=m.Next }=true) (hb:d.ab.all (fun p=>within p 1 16)=true) (hs:ru d):cD (dz m d).1:=by
 simp only [dz]
 cases hp:fv m with
 | false=>exact h
 | true =>
  simp only [fv,zB,zD,ak] at hp
  have eE:∀ x∈m.ae++[{ d with Id:=m.Next }],x∈m.ae\/x={ d with Id:=m.Next }:=by
   intro x hx
   simpa using hx
  refine ⟨h.d,h.dy,?_,?_,?_,?_,?_,?_⟩
  ·show (m.ae++[_]).length<=40
   rw [zK,zL]; omega
  ·show 1<=m.Next+1; omega
  ·show m.Next+1<=100000; omega
  ·intro x hx
   rcases eE x hx with hx | rfl
   ·exact vR (m:=m) (by show m.Next<=m.Next+1; omega) (h.num x hx)
   ·exact hn
  ·intro x hx
   rcases eE x hx with hx | rfl
   ·exact h.bs x hx
   ·exact hb
  ·intro x hx
   rcases eE x hx with hx | rfl
   ·exact h.sz x hx
   ·exact hs
theorem cE.m4 {d:aa} (h:cE d) (i:Int) {x:aR} (hx:bj x=true):cE (aP d i x) :=
 ⟨h.bb,h.bi,List.length_set.trans h.di,h.db,fun y hy=>(mem_set hy).elim (h.ino y) (fun e=>e▸hx),h.oO⟩
theorem cE.pI {d:aa} (h:cE d) (p:Int) {b:Block} (hb:fY b=true):cE (ca d p b) :=
 ⟨h.bb,h.bi,h.di,List.length_set.trans h.db,h.ino,fun y hy=>(mem_set hy).elim (h.oO y) (fun e=>e▸hb)⟩
theorem cE.tT {d:aa} (h:cE d) {bb bi:List Bool} (h1:bb.length=16) (h2:bi.length=8):cE { d with au:=⟨bb,bi⟩ } :=
 ⟨h1,h2,h.di,h.db,h.ino,h.oO⟩
theorem cD.iC {m:Mem} (h:cD m) {i:Int} (h1:1<=i) (h2:i<=8):cD (Soft.iC i m):=by
 simp only [Soft.iC]
 cases hc:decide (40<=(m.ae.length:Int))|| !within m.Next 1 99999 with
 | true=>exact h
 | false =>
  have hx:=h.d.sF h1 h2
  simp only [zF]
  cases hz:decide (0<(gB (ai m.aa i)).Links)||((gB (ai m.aa i)).Kind==0) with
  | true=>exact (h.ye (h.d.m4 i (Hi hx))).mark (aK i)
  | false =>
   have h3:cD { m with ae:=m.ae.filter (stays i) }:=h.less List.filter_sublist
   have h5:=(h3.ye (h.d.m4 i wP)).mark (aK i)
   have hw:within m.Next 1 99999=true:=by
    rw [Bool.or_eq_false_iff] at hc
    simpa using hc.2
   rw [ak] at hw
   refine h5.put _ ?_ ?_ ⟨by show eS.size<=cO; decide,Nat.le_trans (List.length_filter_le _ _) (by rw [h.d.rK h1 h2]; decide)⟩
   ·simp only [bF,zB,ak]
    refine ⟨⟨by omega,by omega⟩,⟨by decide,by decide⟩,⟨h1,h2⟩,⟨by decide,by decide⟩,⟨by decide,by decide⟩,⟨by decide,by decide⟩,by decide,by omega⟩
   ·rw [List.all_eq_true]
    intro p hp
    rw [List.mem_filter,zD] at hp
    simp only [bj,zB,List.all_eq_true,ak] at hx
    have:=(hx.2.2.2.1 p hp.1).1
    rw [ak]; omega
theorem Nz (id after:Int) (y:List Bool) (d:bO):(B9 id after y d).length=y.length:=by
 simp only [B9]
 cases ((d.Kind==4)&&(d.bC==id))&&(after==0) with
 | false=>rfl
 | true=>exact cK _ _
theorem yq (id after:Int) (l:List bO):∀ y:List Bool,(l.foldl (B9 id after) y).length=y.length:=by
 induction l with
 | nil=>intro y; rfl
 | cons d l ih=>intro y; rw [List.foldl_cons,ih,Nz]
theorem cD.shown {m:Mem} (h:cD m) (id after:Int) (h1:0<=after) (h2:after<=m.Next-1):cD (Soft.shown id after m):=by
 have h':=h.drop id
 have eE:∀ x∈(bd m id).ae.map (eQ id after),∃ y∈(bd m id).ae,x=y\/x={ y with bC:=after }:=by
  intro x hx
  obtain ⟨y,hy,rfl⟩:=List.mem_map.1 hx
  refine ⟨y,hy,?_⟩
  simp only [eQ]
  cases (y.Kind==4)&&(y.bC==id) with
  | false=>exact Or.inl rfl
  | true=>exact Or.inr rfl
 refine ⟨h.d,(yq id after _ _).trans h.dy,by show (List.map _ _).length<=40; rw [List.length_map]; exact h'.dp,h.n1,h.n2,fun x hx=> ?_,fun x hx=> ?_,fun x hx=> ?_⟩
 ·obtain ⟨y,hy,e | e⟩:=eE x hx
  ·subst e; exact h'.num _ hy
  ·have:=h'.num _ hy
   subst e
   simp only [bF,zB,ak] at this ⊢
   exact ⟨this.1,this.2.1,this.2.2.1,this.2.2.2.1,this.2.2.2.2.1,this.2.2.2.2.2.1,h1,h2⟩
 ·obtain ⟨y,hy,e | e⟩:=eE x hx
  ·subst e; exact h'.bs _ hy
  ·subst e; exact h'.bs y hy
 ·obtain ⟨y,hy,e | e⟩:=eE x hx
  ·subst e; exact h'.sz _ hy
  ·subst e; exact h'.sz y hy
theorem n8 {m:Mem} (h:cD m):cD (aW m).1/\(aW m).1.Next=m.Next/\(aW m).1.ae=m.ae/\((aW m).2==0\/(1<=(aW m).2/\(aW m).2<=16))/\(aW m).1.aa.ad=m.aa.ad/\(aW m).1.aa.ab=m.aa.ab:=by
 simp only [aW]
 cases hf:firstFree m.aa.au.ab==0 with
 | true=>exact ⟨h,rfl,rfl,Or.inl rfl,rfl,rfl⟩
 | false =>
  have hr:=kx _ hf
  have hl:=h.d.bb
  simp only [zF]
  rw [ql]
  exact ⟨(h.ye (h.d.tT (bb:=m.aa.au.ab.set (firstFree m.aa.au.ab-1).toNat true) (bi:=m.aa.au.bB) (List.length_set.trans h.d.bb) h.d.bi)).mark 0,rfl,rfl,Or.inr ⟨hr.1,by omega⟩,rfl,rfl⟩
theorem E4 {m:Mem} (h:cD m):cD (aQ m).1/\(aQ m).1.Next=m.Next/\(aQ m).1.ae=m.ae/\((aQ m).2==0\/(1<=(aQ m).2/\(aQ m).2<=8))/\(aQ m).1.aa.ad=m.aa.ad/\(aQ m).1.aa.ab=m.aa.ab:=by
 simp only [aQ]
 cases hf:firstFree m.aa.au.bB==0 with
 | true=>exact ⟨h,rfl,rfl,Or.inl rfl,rfl,rfl⟩
 | false =>
  have hr:=kx _ hf
  have hl:=h.d.bi
  simp only [zF]
  rw [ql]
  exact ⟨(h.ye (h.d.tT (bb:=m.aa.au.ab) (bi:=m.aa.au.bB.set (firstFree m.aa.au.bB-1).toNat true) h.d.bb (List.length_set.trans h.d.bi))).mark 0,rfl,rfl,Or.inr ⟨hr.1,by omega⟩,rfl,rfl⟩
def bT (l:List Int):Nat:=(l.takeWhile fun p=> !(p==0)).length
theorem qH (l:List Int):bT l<=l.length:=by
 induction l with
 | nil=>exact Nat.le_refl _
 | cons a l ih =>
  simp only [bT] at ih ⊢
  rw [List.takeWhile_cons]
  cases !(a==0) with
  | false=>simp
  | true=>simp only [if_true,zR]; omega
theorem Ra (v:Nat) (di:List aR) (hl:(di.getD v ay).ax.length<=2097152) (q:Int->Option R) :
  ∀ (r:List Int) (j m:Nat),r=(di.getD v ay).ax.drop j->j<=(di.getD v ay).ax.length->r.length<m->jP v di q m (j:Int)=q ((j+bT r:Nat):Int):=by
 intro r
 induction r with
 | nil =>
  intro j m hr hj hm
  cases m with
  | zero=>omega
  | succ m =>
   have hlen:=congrArg List.length hr
   rw [List.length_nil,List.length_drop] at hlen
   have:¬ j<(di.getD v ay).ax.length:=by omega
   simp only [jP,bk,this,decide_false,zN,Bool.true_or,bf,Bool.false_and,zF]
   rfl
 | cons a r ih =>
  intro j m hr hj hm
  cases m with
  | zero=>omega
  | succ m =>
   have hlen:=congrArg List.length hr
   rw [zR,List.length_drop] at hlen
   have fP:j<(di.getD v ay).ax.length:=by omega
   rw [cQ 0 fP,List.cons.injEq] at hr
   simp only [jP,bk,aG,fP,zV,zM,Bool.false_or,bf,Bool.true_and,zC]
   rw [← hr.1,bM (by omega)]
   simp only [bT]
   rw [List.takeWhile_cons]
   cases hc: !(a==0) with
   | false=>rfl
   | true =>
    simp only [zE,if_true,zR]
    rw [ih (j+1) m hr.2 (by omega) (by simp only [zR] at hm; omega)]
    simp only [bT]
    congr 1
    omega
def gL (x:aR) (i:Nat) (p:Int):aR:=⟨x.Kind,x.Links,x.ax.set i p⟩
def eV (b:Block) (s:Nat) (x:Slot):Block:=⟨b.bZ,b.ah.set s x,b.Text⟩
def setName (m:Mem) (p s:Int) (name:ByteArray) (ino:Int):Mem×Int :=
 dz ⟨ca m.aa p (eV (aH m.aa p) s.toNat ⟨name,ino⟩),bP 0 (bP (aE p) m.an),m.ae,m.Next⟩ ⟨0,2,ino,0,p,s,eS,false,false,0,[]⟩
def dm (m:Mem) (dir:Int) (x:Nat) (r:Int):Mem :=
 (dz ⟨aP (ca m.aa r ⟨true,List.replicate 4 aq,eS⟩) dir (gL (ai m.aa dir) x r),bP (aK dir) (bP (aE r) m.an),m.ae,m.Next⟩ ⟨0,1,dir,x,r,0,eS,false,false,0,[]⟩).1
def dK (m:Mem) (dir:Int) (name:ByteArray) (ino:Int):Mem×Int :=
 bif (nu m (ai m.aa dir).ax).1==0 then
  bif bT (ai m.aa dir).ax==(ai m.aa dir).ax.length then (m,0) else
  bif (aW m).2==0 then (m,0) else
  setName (dm (aW m).1 dir (bT (ai m.aa dir).ax) (aW m).2) (aW m).2 0 name ino
 else setName m (nu m (ai m.aa dir).ax).1 (nu m (ai m.aa dir).ax).2 name ino
theorem DH {m:Mem} (h:1<=m.Next) (d:bO):0<=(dz m d).2/\(dz m d).2<=(dz m d).1.Next-1/\m.Next<=(dz m d).1.Next:=by
 simp only [dz]
 cases fv m with
 | false=>simp only [zF]; omega
 | true=>simp only [zE]; omega
theorem cD.setName {m:Mem} (h:cD m) {p s ino:Int} {name:ByteArray} (p1:1<=p) (p2:p<=16) (hd:(aH m.aa p).bZ=true) (s0:0<=s) (s1:s<=3) (hs:bH name=true) (i1:1<=ino) (i2:ino<=8) :
  cD (Soft.setName m p s name ino).1:=by
 have hb:fY (eV (aH m.aa p) s.toNat ⟨name,ino⟩)=true:=vA (h.d.nz p1 p2) hd _ (by
  simp only [py,Bool.or_eq_true,zB,ak]
  exact Or.inr ⟨hs,i1,i2⟩)
 have h1:=((h.ye (h.d.pI p hb)).mark (aE p)).mark 0
 have n1:=h.n1
 refine h1.put _ ?_ rfl ⟨by show eS.size<=cO; decide,Nat.zero_le _⟩
 simp only [bF,zB,ak]
 refine ⟨⟨by omega,by omega⟩,⟨by decide,by decide⟩,⟨i1,i2⟩,⟨by decide,by decide⟩,⟨by omega,p2⟩,⟨s0,s1⟩,by decide,by omega⟩
theorem oX {x:aR} (h:bj x=true) (hk:x.Kind≠0) (i:Nat) {p:Int} (p1:0<=p) (p2:p<=16):bj (gL x i p)=true:=by
 have hb:(x.Kind != 0)=true:=by simpa using hk
 simp only [bj,gL,zB,ak,List.length_set,List.all_eq_true] at h ⊢
 refine ⟨h.1,h.2.1,h.2.2.1,fun y hy=> ?_,h.2.2.2.2⟩
 rcases mem_set hy with hy | rfl
 ·exact h.2.2.2.1 y hy
 ·exact ⟨⟨p1,p2⟩,by rw [hb]; rfl⟩
theorem IZ {d:aa} (h:d.ab.length=16) {p:Int} (p1:1<=p) (p2:p<=16) (b:Block):aH (ca d p b) p=b:=by
 have:=yh (d:=d) (l:=d.ab) (i:=p) (j:=p) (x:=b) p1 (by omega) p1
 rw [beq_self_eq_true,zE] at this
 exact this
theorem cD.dm {m:Mem} (h:cD m) {dir r:Int} {x:Nat} (d1:1<=dir) (d2:dir<=8) (hk:(ai m.aa dir).Kind≠0) (hx:x<=1) (r1:1<=r) (r2:r<=16) :
  cD (Soft.dm m dir x r)/\aH (Soft.dm m dir x r).aa r=⟨true,List.replicate 4 aq,eS⟩:=by
 have hb:fY ⟨true,List.replicate 4 aq,eS⟩=true:=by decide
 have h1:=(((h.ye ((h.d.pI r hb).m4 dir (oX (h.d.sF d1 d2) hk x (by omega:(0:Int)<=r) r2))).mark (aE r)).mark (aK dir))
 have n1:=h.n1
 constructor
 ·refine h1.put _ ?_ rfl ⟨by show eS.size<=cO; decide,Nat.zero_le _⟩
  simp only [bF,zB,ak]
  refine ⟨⟨by omega,by omega⟩,⟨by decide,by decide⟩,⟨d1,d2⟩,⟨by omega,by omega⟩,⟨by omega,r2⟩,⟨by decide,by decide⟩,by decide,by omega⟩
 ·simp only [Soft.dm]
  rw [yH]
  exact IZ h.d.db r1 r2 _
theorem DF {n:Nat} (hn:bq<=n) (m:Mem) (h:cD m) {dir ino:Int} (d1:1<=dir) (d2:dir<=8) (hk:(ai m.aa dir).Kind≠0) {name:ByteArray} (hs:bH name=true) (i1:1<=ino) (i2:ino<=8) (k:Int->Mem->Option R) :
  pZ n dir name ino m k=k (dK m dir name ino).2 (dK m dir name ino).1:=by
 have Qe:=h.d.di
 have SB:=h.d.db
 have KN:=h.d.rK d1 d2
 have e0:m.aa.ad.getD (dir-1).toNat ay=ai m.aa dir:=rfl
 simp only [pZ]
 rw [bJ (by omega) (by omega),aj (bu d1 (by omega)),U1 hn m h.Et _ (by rw [e0,KN]; decide),e0]
 simp only [dK]
 have last:∀ (m:Mem) (h:cD m) (p s:Int) (p1:1<=p) (p2:p<=16) (hd:(aH m.aa p).bZ=true) (s0:0<=s) (s1:s<=3),
   (aJ (aZ (p-1) m.aa.ab.length)<|aJ (aZ s (((m.aa.ab.getD (p-1).toNat aA).ah).length)) <|
    bU p fun D8 =>
    bW D8 ⟨⟨m.aa.au,m.aa.ad,m.aa.ab.set (p-1).toNat ⟨(m.aa.ab.getD (p-1).toNat aA).bZ,((m.aa.ab.getD (p-1).toNat aA).ah).set s.toNat ⟨name,ino⟩,(m.aa.ab.getD (p-1).toNat aA).Text⟩⟩,m.an,m.ae,m.Next⟩ fun PX =>
    bW 0 ⟨⟨m.aa.au,m.aa.ad,m.aa.ab.set (p-1).toNat ⟨(m.aa.ab.getD (p-1).toNat aA).bZ,((m.aa.ab.getD (p-1).toNat aA).ah).set s.toNat ⟨name,ino⟩,(m.aa.ab.getD (p-1).toNat aA).Text⟩⟩,PX.an,m.ae,PX.Next⟩ fun PW =>
    iA n ⟨⟨m.aa.au,m.aa.ad,m.aa.ab.set (p-1).toNat ⟨(m.aa.ab.getD (p-1).toNat aA).bZ,((m.aa.ab.getD (p-1).toNat aA).ah).set s.toNat ⟨name,ino⟩,(m.aa.ab.getD (p-1).toNat aA).Text⟩⟩,PW.an,m.ae,PW.Next⟩ ⟨0,2,ino,0,p,s,eS,false,false,0,[]⟩ fun uA uo =>
    k uo uA)=k (setName m p s name ino).2 (setName m p s name ino).1:=by
  intro m h p s p1 p2 hd s0 s1
  have SB:=h.d.db
  have e1:m.aa.ab.getD (p-1).toNat aA=aH m.aa p:=rfl
  have hb:fY (eV (aH m.aa p) s.toNat ⟨name,ino⟩)=true:=vA (h.d.nz p1 p2) hd _ (by
   simp only [py,Bool.or_eq_true,zB,ak]
   exact Or.inr ⟨hs,i1,i2⟩)
  rw [aj (bu p1 (by omega)),e1,aj (by rw [dh (h.d.nz p1 p2) hd]; simp only [aZ,zB,zD]; omega),dV,dk,jF,dk,jF]
  refine (pX hn _ (((h.ye (h.d.pI p hb)).mark (aE p)).mark 0).Et _ (Nat.zero_le _) _).trans ?_
  rfl
 rcases Aq m (ai m.aa dir).ax with e | f
 ·rw [e]
  simp only [beq_self_eq_true,zE]
  have Zf:=Ra (R:=R) (dir-1).toNat m.aa.ad (by rw [e0,KN]; decide)
  rw [e0] at Zf
  refine (Zf _ (ai m.aa dir).ax 0 n rfl (Nat.zero_le _) (by rw [KN]; exact aO hn (by decide))).trans ?_
  rw [Nat.zero_add,cG]
  have hz:=qH (ai m.aa dir).ax
  cases hc:bT (ai m.aa dir).ax==(ai m.aa dir).ax.length with
  | true=>rfl
  | false =>
   have fP:bT (ai m.aa dir).ax<2:=by
    have:¬ bT (ai m.aa dir).ax=(ai m.aa dir).ax.length:=by simpa using hc
    omega
   simp only [zF]
   rw [wF hn m h.Et]
   obtain ⟨t,t1,t2,t3,t4,t5⟩:=n8 h
   cases hr:(aW m).2==0 with
   | true=>rfl
   | false =>
    have cy:1<=(aW m).2/\(aW m).2<=16:=t3.resolve_left (by rw [hr]; decide)
    have JF:ai (aW m).1.aa dir=ai m.aa dir:=by simp only [ai,t4]
    have iV:(ai (aW m).1.aa dir).Kind≠0:=by rw [JF]; exact hk
    obtain ⟨g,gb⟩:=t.dm (x:=bT (ai m.aa dir).ax) d1 d2 iV (by omega) cy.1 cy.2
    generalize aW m=tb at *
    simp only [zF]
    rw [yj,bJ (by omega) (by omega),aj (bu cy.1 (by rw [t.d.db]; exact cy.2)),aj (bu d1 (by rw [t.d.di]; exact d2))]
    have e2:tb.1.aa.ad.getD (dir-1).toNat ay=ai tb.1.aa dir:=rfl
    rw [e2,aj (by rw [t.d.rK d1 d2]; simp only [aZ,zB,zD]; omega),dV,dk,jF,gm,dk,jF,zC]
    have hb:fY ⟨true,List.replicate 4 aq,eS⟩=true:=by decide
    have h1:=(((t.ye ((t.d.pI tb.2 hb).m4 dir (oX (t.d.sF d1 d2) iV (bT (ai m.aa dir).ax) (by omega:(0:Int)<=tb.2) cy.2))).mark (aE tb.2)).mark (aK dir))
    refine (pX hn _ h1.Et _ (Nat.zero_le _) _).trans ?_
    exact last (dm tb.1 dir (bT (ai m.aa dir).ax) tb.2) g tb.2 0 cy.1 cy.2 (by rw [gb]) (by decide) (by decide)
 ·generalize nu m (ai m.aa dir).ax=a at f
  have cL:(a.1==0)=false:=by have:=f.p1; simp; omega
  have p2:=f.p2
  have s1:=f.s1
  rw [SB] at p2
  rw [dh (h.d.nz f.p1 p2) f.dir] at s1
  simp only [cL,zF]
  have p1:=f.p1
  rw [bJ (by omega) (by omega)]
  exact last m h a.1 a.2 f.p1 p2 f.dir f.s0 (by omega)
theorem Bh {m:Mem} (h:1<=m.Next) (p s:Int) (name:ByteArray) (ino:Int):0<=(setName m p s name ino).2/\(setName m p s name ino).2<=(setName m p s name ino).1.Next-1/\m.Next<=(setName m p s name ino).1.Next :=
 DH (m:=⟨ca m.aa p (eV (aH m.aa p) s.toNat ⟨name,ino⟩),bP 0 (bP (aE p) m.an),m.ae,m.Next⟩) h ⟨0,2,ino,0,p,s,eS,false,false,0,[]⟩
theorem E9 {m:Mem} (h:1<=m.Next) (dir:Int) (x:Nat) (r:Int):m.Next<=(dm m dir x r).Next :=
 (DH (m:=⟨aP (ca m.aa r ⟨true,List.replicate 4 aq,eS⟩) dir (gL (ai m.aa dir) x r),bP (aK dir) (bP (aE r) m.an),m.ae,m.Next⟩) h ⟨0,1,dir,x,r,0,eS,false,false,0,[]⟩).2.2
theorem cD.dK {m:Mem} (h:cD m) {dir ino:Int} (d1:1<=dir) (d2:dir<=8) (hk:(ai m.aa dir).Kind≠0) {name:ByteArray} (hs:bH name=true) (i1:1<=ino) (i2:ino<=8) :
  cD (Soft.dK m dir name ino).1/\0<=(Soft.dK m dir name ino).2/\(Soft.dK m dir name ino).2<=(Soft.dK m dir name ino).1.Next-1/\m.Next<=(Soft.dK m dir name ino).1.Next:=by
 have SB:=h.d.db
 have KN:=h.d.rK d1 d2
 have n1:=h.n1
 simp only [Soft.dK]
 rcases Aq m (ai m.aa dir).ax with e | f
 ·rw [e]
  simp only [beq_self_eq_true,zE]
  have hz:=qH (ai m.aa dir).ax
  cases hc:bT (ai m.aa dir).ax==(ai m.aa dir).ax.length with
  | true=>exact ⟨h,Int.le_refl 0,by simp only [zE]; omega,Int.le_refl _⟩
  | false =>
   have fP:bT (ai m.aa dir).ax<2:=by
    have:¬ bT (ai m.aa dir).ax=(ai m.aa dir).ax.length:=by simpa using hc
    omega
   simp only [zF]
   obtain ⟨t,t1,t2,t3,t4,t5⟩:=n8 h
   cases hr:(aW m).2==0 with
   | true=>exact ⟨h,Int.le_refl 0,by simp only [zE]; omega,Int.le_refl _⟩
   | false =>
    have cy:1<=(aW m).2/\(aW m).2<=16:=t3.resolve_left (by rw [hr]; decide)
    have JF:ai (aW m).1.aa dir=ai m.aa dir:=by simp only [ai,t4]
    have iV:(ai (aW m).1.aa dir).Kind≠0:=by rw [JF]; exact hk
    obtain ⟨g,gb⟩:=t.dm (x:=bT (ai m.aa dir).ax) d1 d2 iV (by omega) cy.1 cy.2
    have gn:(aW m).1.Next<=(Soft.dm (aW m).1 dir (bT (ai m.aa dir).ax) (aW m).2).Next:=E9 t.n1 _ _ _
    have si:=Bh g.n1 (aW m).2 0 name ino
    exact ⟨g.setName cy.1 cy.2 (by rw [gb]) (by decide) (by decide) hs i1 i2,si.1,si.2.1,by simp only [zF]; omega⟩
 ·generalize nu m (ai m.aa dir).ax=a at f
  have cL:(a.1==0)=false:=by have:=f.p1; simp; omega
  have p2:=f.p2
  have s1:=f.s1
  rw [SB] at p2
  rw [dh (h.d.nz f.p1 p2) f.dir] at s1
  simp only [cL,zF]
  have si:=Bh n1 a.1 a.2 name ino
  exact ⟨h.setName f.p1 p2 f.dir f.s0 (by omega) hs i1 i2,si.1,si.2.1,si.2.2⟩
def nq (m:Mem) (p s:Int):Mem:=⟨ca m.aa p (eV (aH m.aa p) s.toNat ⟨eS,0⟩),bP (aE p) m.an,m.ae,m.Next⟩
def pN (m:Mem) (p s:Int):Slot:=(aH m.aa p).ah.getD s.toNat aq
def eC (m:Mem) (p s «by»:Int):Mem :=
 bif (iq m (fQ m p s)==2)||(iq m (fQ m p s)==3) then iC (pN m p s).Ino (shown (fQ m p s) «by» (nq m p s))
 else (dz (nq m p s) ⟨0,4,(pN m p s).Ino,0,p,s,(pN m p s).Name,false,false,«by»,[]⟩).1
theorem cD.nq {m:Mem} (h:cD m) {p s:Int} (p1:1<=p) (p2:p<=16) (hd:(aH m.aa p).bZ=true):cD (Soft.nq m p s) :=
 (h.ye (h.d.pI p (vA (h.d.nz p1 p2) hd s.toNat (s:=⟨eS,0⟩) (by decide)))).mark (aE p)
theorem Lf {m:Mem} (h:cD m) {p s:Int} (p1:1<=p) (p2:p<=16) (hd:(aH m.aa p).bZ=true) (s0:0<=s) (s1:s<=3):py (pN m p s)=true :=
 td (h.d.nz p1 p2) hd (aV aq (by rw [dh (h.d.nz p1 p2) hd]; omega))
theorem IT {s:Slot} (h:py s=true):s.Name.size<=6:=by
 simp only [py,Bool.or_eq_true,zB,beq_iff_eq] at h
 rcases h with h | h
 ·rw [h.1]; decide
 ·exact (eP h.1).2
theorem cD.eC {m:Mem} (h:cD m) {p s b:Int} (p1:1<=p) (p2:p<=16) (hd:(aH m.aa p).bZ=true) (s0:0<=s) (s1:s<=3) (hi:within (pN m p s).Ino 1 8=true) (b0:0<=b) (b1:b<=m.Next-1):cD (Soft.eC m p s b):=by
 have g:=h.nq (s:=s) p1 p2 hd
 have n1:=h.n1
 rw [ak] at hi
 simp only [Soft.eC]
 cases (iq m (fQ m p s)==2)||(iq m (fQ m p s)==3) with
 | true=>exact (g.shown _ _ b0 b1).iC hi.1 hi.2
 | false =>
  refine g.put _ ?_ rfl ⟨Nat.le_trans (IT (Lf h p1 p2 hd s0 s1)) (by decide),Nat.zero_le _⟩
  have gn:(Soft.nq m p s).Next=m.Next:=rfl
  simp only [bF,zB,ak,gn]
  refine ⟨⟨by omega,by omega⟩,⟨by decide,by decide⟩,hi,⟨by decide,by decide⟩,⟨by omega,p2⟩,⟨s0,s1⟩,b0,by omega⟩
theorem AL {n:Nat} (hn:bq<=n) {m:Mem} (h:cD m) {p s b:Int} (p1:1<=p) (p2:p<=16) (hd:(aH m.aa p).bZ=true) (s0:0<=s) (s1:s<=3) (hi:within (pN m p s).Ino 1 8=true) (b0:0<=b) (b1:b<=m.Next-1) (k:Mem->Option R) :
  nR n p s b m k=k (eC m p s b):=by
 have SB:=h.d.db
 have g:=h.nq (s:=s) p1 p2 hd
 have e1:m.aa.ab.getD (p-1).toNat aA=aH m.aa p:=rfl
 rw [ak] at hi
 simp only [nR]
 rw [bJ (by omega) (by omega),aj (bu p1 (by omega)),e1,aj (by rw [dh (h.d.nz p1 p2) hd]; simp only [aZ,zB,zD]; omega),
  AX hn m h.Et.dp,Bd hn _ m h.Et.dp,aj (bu p1 (by omega)),aj (by rw [dh (h.d.nz p1 p2) hd]; simp only [aZ,zB,zD]; omega),dV,dk,jF]
 simp only [eC]
 cases hc:(iq m (fQ m p s)==2)||(iq m (fQ m p s)==3) with
 | true =>
  simp only [zE]
  have sh:=g.shown (fQ m p s) b b0 b1
  refine (yI hn (nq m p s) g.Et (fQ m p s) b _).trans ?_
  have hl:within (ai (shown (fQ m p s) b (nq m p s)).aa (pN m p s).Ino).Links 0 200=true:=by
   have:=sh.d.sF hi.1 hi.2
   simp only [bj,zB] at this
   exact this.2.1
  refine (AO hn _ sh.Et (pN m p s).Ino hi.1 (by rw [sh.d.di]; exact hi.2) hl (by rw [sh.d.rK hi.1 hi.2]; decide) _).trans ?_
  rfl
 | false =>
  simp only [zF]
  refine (pX hn (nq m p s) g.Et _ (Nat.zero_le _) _).trans ?_
  rfl
theorem sj (d:aa):∀ (l:List ByteArray) (i:Int),(i=0\/(1<=i/\i<=d.ad.length))->(cz d i l=0\/(1<=cz d i l/\cz d i l<=d.ad.length))
 | [],i,h=>h
 | x::l,i,h=>by
  simp only [cz]
  cases hw:within (find d i x).2.2 1 d.ad.length with
  | false=>exact .inl rfl
  | true=>exact sj d l _ (.inr (ak.1 hw))
theorem ln {d:aa} (h:d.ad.length=8) (p:ByteArray):aD d p=0\/(1<=aD d p/\aD d p<=8):=by
 simp only [aD]
 cases (aN p).2 with
 | false=>exact .inl rfl
 | true =>
  have:=sj d (aN p).1 1 (.inr ⟨by omega,by omega⟩)
  rw [h] at this
  exact this
theorem mu (p:ByteArray):(ao p).1.size<=cO/\(ao p).2.1.size<=cO/\((ao p).2.2=true->bH (ao p).2.1=true):=by
 simp only [ao]
 cases hc: !(aN p).2||(aN p).1.length==0 with
 | true=>exact ⟨by show eS.size<=cO; decide,by show eS.size<=cO; decide,fun h=>by cases h⟩
 | false =>
  rw [Bool.or_eq_false_iff] at hc
  have hl:¬ (aN p).1.length=0:=by simpa using hc.2
  rcases nf p with e | e | ⟨_,e,l4⟩
  ·rw [e] at hl; exact absurd rfl hl
  ·rw [e] at hl; exact absurd rfl hl
  ·have Ck:∀ x∈(aN p).1.dropLast,x∈(aN p).1:=fun x hx=>(List.dropLast_sublist _).subset hx
   have hm:bH ((aN p).1.getD ((aN p).1.length-1) eS)=true:=List.all_eq_true.1 e _ (aV eS (by omega))
   have hd:∀ x∈(aN p).1.dropLast,x.size<=6:=fun x hx=>(eP (List.all_eq_true.1 e x (Ck x hx))).2
   have hj:(eO (aN p).1.dropLast).size<=cO:=by
    have:=uN _ eS hd
    have l:(aN p).1.dropLast.length=(aN p).1.length-1:=List.length_dropLast
    have e0:eS.size=0:=rfl
    exact Nat.le_trans this (by rw [l,e0]; show _<=2097152; omega)
   refine ⟨?_,Nat.le_trans (eP hm).2 (by decide),fun _=>hm⟩
   simp only [zF]
   cases eO (aN p).1.dropLast==eS with
   | true=>show (S [47]).size<=cO; decide
   | false=>exact hj
theorem fy.t {m:Mem} (h:fy m) (hs:eU m):cD m:=⟨h.d.t,h.dy,h.dp,h.n1,h.n2,h.num,h.bs,hs.dep⟩
def room (m:Mem):Bool:=decide ((m.ae.length:Int)<=32)&&decide (m.Next<=99000)
def jj (t:Mem×Int) (kind:Int):Mem:=⟨aP t.1.aa t.2 (aY kind),bP (aK t.2) t.1.an,t.1.ae,t.1.Next⟩
def eT (m:Mem) (p:ByteArray) (kind:Int):Mem×Int :=
 bif ((!fe m)||(!(ao p).2.2))||((!(kind==1))&&(!(kind==2))) then (m,6) else
 bif !(aD m.aa p==0) then (m,2) else
 bif aD m.aa (ao p).1==0 then (m,1) else
 bif !((ai m.aa (aD m.aa (ao p).1)).Kind==2) then (m,3) else
 bif waits m (aD m.aa (ao p).1) (ao p).2.1 then (m,5) else
 bif ((aQ m).2==0)||(!room (aQ m).1) then (m,4) else
 bif (dK (jj (aQ m) kind) (aD m.aa (ao p).1) (ao p).2.1 (aQ m).2).2==0 then (m,4) else
 ((dK (jj (aQ m) kind) (aD m.aa (ao p).1) (ao p).2.1 (aQ m).2).1,0)
theorem yJ {kind:Int} (h:kind=1\/kind=2):bj (aY kind)=true:=by
 rcases h with rfl | rfl<;>decide
theorem yA {n:Nat} (hn:bq<=n) (m:Mem) (hm:eU m) (p:ByteArray) (hp:p.size<=cO) (kind:Int) (k:Mem->Int->Option R) :
  n9 n m p kind k=k (eT m p kind).1 (eT m p kind).2/\((eT m p kind).1=m\/(fe m=true/\cD (eT m p kind).1)):=by
 obtain ⟨q1,q2,q3⟩:=mu p
 simp only [n9,eT]
 rw [dY hn m hm,pf hn p hp,mS hn m hm]
 cases hc:((!fe m)||(!(ao p).2.2))||((!(kind==1))&&(!(kind==2))) with
 | true=>exact ⟨rfl,.inl rfl⟩
 | false =>
 simp only [Bool.or_eq_false_iff,Bool.not_eq_false'] at hc
 have hR:=lL.1 hc.1.1
 have hT:=hR.t hm
 have PD:=q3 hc.1.2
 have Tm:kind=1\/kind=2:=by
  have:=hc.2
  cases h1:kind==1 with
  | true=>exact .inl (by simpa using h1)
  | false =>
   cases h2:kind==2 with
   | true=>exact .inr (by simpa using h2)
   | false=>rw [h1,h2] at this; cases this
 simp only [zF]
 rw [jd hn _ hm.d p hp]
 cases h2: !(aD m.aa p==0) with
 | true=>exact ⟨rfl,.inl rfl⟩
 | false =>
 simp only [zF]
 rw [jd hn _ hm.d _ q1]
 cases h3:aD m.aa (ao p).1==0 with
 | true=>exact ⟨rfl,.inl rfl⟩
 | false =>
 have hw:=(ln hT.d.di (ao p).1).resolve_left (by simpa using h3)
 generalize aD m.aa (ao p).1=w at hw ⊢
 have Qe:=hT.d.di
 simp only [zF]
 rw [bJ (by omega) (by omega),aj (bu hw.1 (by omega)),show m.aa.ad.getD (w-1).toNat ay=ai m.aa w from rfl]
 cases h4: !((ai m.aa w).Kind==2) with
 | true=>exact ⟨rfl,.inl rfl⟩
 | false =>
 have rW:(ai m.aa w).Kind=2:=by simpa using h4
 simp only [zF]
 rw [yR hn m hm.dp hm.d.di w hw.1 (by omega) (by rw [hT.d.rK hw.1 hw.2]; decide)]
 cases h5:waits m w (ao p).2.1 with
 | true=>exact ⟨rfl,.inl rfl⟩
 | false =>
 simp only [zF]
 rw [Iv hn m hm]
 obtain ⟨t,t1,t2,t3,t4,t5⟩:=E4 hT
 simp only [jM]
 cases h6:(aQ m).2==0 with
 | true=>exact ⟨rfl,.inl rfl⟩
 | false =>
 have hi:=t3.resolve_left (by rw [h6]; decide)
 generalize aQ m=tk at *
 simp only [zN,zE,Bool.false_or]
 cases h7: !room tk.1 with
 | true =>
  have VM:(!(decide ((tk.1.ae.length:Int)<=32)&&decide (tk.1.Next<=99000)))=true:=h7
  rw [VM]
  exact ⟨rfl,.inl rfl⟩
 | false =>
 have VM:(!(decide ((tk.1.ae.length:Int)<=32)&&decide (tk.1.Next<=99000)))=false:=h7
 rw [VM]
 simp only [zF]
 rw [jf,bJ (by omega) (by omega),aj (bu hi.1 (by rw [t.d.di]; exact hi.2)),gm,dk,jF]
 have hL:cD (jj tk kind):=(t.ye (t.d.m4 tk.2 (yJ Tm))).mark (aK tk.2)
 have iV:(ai (jj tk kind).aa w).Kind≠0:=by
  have:=D1 (d:=tk.1.aa) (l:=tk.1.aa.ad) (i:=tk.2) (j:=w) (x:=aY kind) hi.1 (by rw [t.d.di]; exact hi.2) hw.1
  show (ai { tk.1.aa with ad:=tk.1.aa.ad.set (tk.2-1).toNat (aY kind) } w).Kind≠0
  rw [this]
  cases w==tk.2 with
  | true=>show kind≠0; rcases Tm with rfl | rfl<;>decide
  | false =>
   show (tk.1.aa.ad.getD (w-1).toNat ay).Kind≠0
   rw [t4]
   show (ai m.aa w).Kind≠0
   rw [rW]; decide
 have Vu:=DF (R:=R) hn (jj tk kind) hL hw.1 hw.2 iV PD hi.1 hi.2
 have bR:=hL.dK hw.1 hw.2 iV PD hi.1 hi.2
 constructor
 ·refine (Vu _).trans ?_
  cases (dK (jj tk kind) w (ao p).2.1 tk.2).2==0<;>rfl
 ·cases (dK (jj tk kind) w (ao p).2.1 tk.2).2==0 with
  | true=>exact .inl rfl
  | false=>exact .inr ⟨hc.1.1,bR.1⟩
def pB (m:Mem) (r:Int) (s:ByteArray):Mem:=⟨ca m.aa r ⟨false,[],s⟩,bP (aE r) m.an,m.ae,m.Next⟩
def sR (t:Mem×Int) (w x:Int):Mem :=
 (dz ⟨aP t.1.aa w (gL (ai t.1.aa w) x.toNat t.2),bP (aK w) t.1.an,t.1.ae,t.1.Next⟩ ⟨0,1,w,x,t.2,0,eS,false,false,0,[]⟩).1
def jH (m:Mem) (p:ByteArray) (x:Int) (s:ByteArray):Mem×Int :=
 bif (((!fe m)||(!(aN p).2))||(!within x 0 1))||(decide (16<(s.size:Int))) then (m,6) else
 bif aD m.aa p==0 then (m,1) else
 bif !((ai m.aa (aD m.aa p)).Kind==1) then (m,3) else
 bif (ai m.aa (aD m.aa p)).ax.getD x.toNat 0==0 then
  bif ((aW m).2==0)||(!room m) then (m,4) else (pB (sR (aW m) (aD m.aa p) x) (aW m).2 s,0)
 else (pB m ((ai m.aa (aD m.aa p)).ax.getD x.toNat 0) s,0)
theorem cD.pB {m:Mem} (h:cD m) (r:Int) {s:ByteArray} (hs:s.size<=16):cD (Soft.pB m r s) :=
 (h.ye (h.d.pI r (b:=⟨false,[],s⟩) (by simpa [fY] using hs))).mark (aE r)
theorem ES {n:Nat} (hn:bq<=n) (m:Mem) (hm:eU m) (p:ByteArray) (hp:p.size<=cO) (x:Int) (s:ByteArray) (k:Mem->Int->Option R) :
  pd n m p x s k=k (jH m p x s).1 (jH m p x s).2/\((jH m p x s).1=m\/(fe m=true/\cD (jH m p x s).1)):=by
 simp only [pd,jH]
 rw [dY hn m hm,nJ hn p hp,mS hn m hm,iX]
 cases ha:fe m with
 | false=>exact ⟨rfl,.inl rfl⟩
 | true =>
 cases hb:(aN p).2 with
 | false=>exact ⟨rfl,.inl rfl⟩
 | true =>
 cases hx:within x 0 1 with
 | false=>exact ⟨rfl,.inl rfl⟩
 | true =>
 cases hs:decide (16<(s.size:Int)) with
 | true=>exact ⟨rfl,.inl rfl⟩
 | false =>
 have hR:=lL.1 ha
 have hT:=hR.t hm
 have Fu:s.size<=16:=by have:=of_decide_eq_false hs; omega
 rw [ak] at hx
 simp only [zM,zN,Bool.or_false,zE,zF]
 rw [jd hn _ hm.d p hp]
 cases h3:aD m.aa p==0 with
 | true=>exact ⟨rfl,.inl rfl⟩
 | false =>
 have hw:=(ln hT.d.di p).resolve_left (by simpa using h3)
 generalize aD m.aa p=w at hw ⊢
 have Qe:=hT.d.di
 simp only [zF]
 rw [bJ (by omega) (by omega),aj (bu hw.1 (by omega)),show m.aa.ad.getD (w-1).toNat ay=ai m.aa w from rfl]
 cases h4: !((ai m.aa w).Kind==1) with
 | true=>exact ⟨rfl,.inl rfl⟩
 | false =>
 have vN:(ai m.aa w).Kind=1:=by simpa using h4
 have hix:aZ x 2=true:=by simp only [aZ,zB,zD]; omega
 simp only [zF]
 rw [dY hn m hm,aj (bu hw.1 (by omega)),aj (by rw [hT.d.rK hw.1 hw.2]; exact hix)]
 cases h5:(ai m.aa w).ax.getD x.toNat 0==0 with
 | true =>
  simp only [zE]
  rw [wF hn m hm]
  obtain ⟨t,t1,t2,t3,t4,t5⟩:=n8 hT
  simp only [jM]
  cases h6:(aW m).2==0 with
  | true=>exact ⟨rfl,.inl rfl⟩
  | false =>
  have hi:=t3.resolve_left (by rw [h6]; decide)
  generalize aW m=tk at *
  simp only [zN,zE,Bool.false_or]
  cases h7: !room m with
  | true =>
   have VM:(!(decide ((m.ae.length:Int)<=32)&&decide (m.Next<=99000)))=true:=h7
   rw [VM]
   exact ⟨rfl,.inl rfl⟩
  | false =>
  have VM:(!(decide ((m.ae.length:Int)<=32)&&decide (m.Next<=99000)))=false:=h7
  rw [VM]
  have JF:ai tk.1.aa w=ai m.aa w:=by simp only [ai,t4]
  have iV:(ai tk.1.aa w).Kind≠0:=by rw [JF,vN]; decide
  have h1:=(t.ye (t.d.m4 w (oX (t.d.sF hw.1 hw.2) iV x.toNat (by omega:(0:Int)<=tk.2) hi.2))).mark (aK w)
  have n1:=t.n1
  have hg:cD (sR tk w x):=by
   refine h1.put _ ?_ rfl ⟨by show eS.size<=cO; decide,Nat.zero_le _⟩
   simp only [bF,zB,ak]
   refine ⟨⟨by omega,by omega⟩,⟨by decide,by decide⟩,hw,hx,⟨by omega,hi.2⟩,⟨by decide,by decide⟩,by decide,by omega⟩
  simp only [zF]
  refine ⟨?_,.inr ⟨by first | exact trivial | rfl,hg.pB tk.2 Fu⟩⟩
  have e2:tk.1.aa.ad.getD (w-1).toNat ay=ai tk.1.aa w:=rfl
  rw [aj (bu hw.1 (by rw [t.d.di]; exact hw.2)),e2,aj (by rw [t.d.rK hw.1 hw.2]; exact hix),gm,dk,jF]
  refine (pX hn _ h1.Et _ (Nat.zero_le _) _).trans ?_
  have hgb:(sR tk w x).aa.ab.length=16:=hg.d.db
  have adh:(dz ⟨aP tk.1.aa w (gL (ai tk.1.aa w) x.toNat tk.2),bP (aK w) tk.1.an,tk.1.ae,tk.1.Next⟩ ⟨0,1,w,x,tk.2,0,eS,false,false,0,[]⟩).1.aa.ab.length=16:=hgb
  rw [bJ (by omega) (by omega),aj (bu hi.1 (by rw [adh]; exact hi.2)),dV,dk,jF]
  rfl
 | false =>
  simp only [zF]
  have SB:=hT.d.db
  have MK:1<=(ai m.aa w).ax.getD x.toNat 0/\(ai m.aa w).ax.getD x.toNat 0<=16:=by
   have Cq:=hT.d.sF hw.1 hw.2
   have hlen:=hT.d.rK hw.1 hw.2
   simp only [bj,zB,List.all_eq_true,ak] at Cq
   have:=(Cq.2.2.2.1 _ (aV 0 (l:=(ai m.aa w).ax) (i:=x.toNat) (by omega))).1
   have cL:¬ (ai m.aa w).ax.getD x.toNat 0=0:=by simpa using h5
   omega
  refine ⟨?_,.inr ⟨by first | exact trivial | rfl,hT.pB _ Fu⟩⟩
  generalize (ai m.aa w).ax.getD x.toNat 0=r at MK ⊢
  rw [bJ (by omega) (by omega),aj (bu MK.1 (by omega)),dV,dk,jF]
  rfl
theorem x9 {α:Type} (P:α->Bool) (d:α):∀ (l:List α) (j:Nat),bE P l=(j:Int)->P (l.getD j d)=true
 | [],j,h=>by
  simp only [bE] at h
  omega
 | x::l,j,h=>by
  simp only [bE] at h
  cases hp:P x with
  | true =>
   simp only [hp,zE] at h
   have:j=0:=by omega
   subst this
   exact hp
  | false =>
   simp only [hp,zF] at h
   rcases gF P l with e | ⟨j',e,hj⟩
   ·rw [e] at h
    have h':(-1:Int)=(j:Int):=h
    omega
   ·rw [e] at h
    have h':((j'+1:Nat):Int)=(j:Int):=h
    have:j=j'+1:=by omega
    subst this
    rw [List.getD_cons_succ]
    exact x9 P d l j' e
structure Found (d:aa) (p s ino:Int):Prop where
 p1:1<=p
 p2:p<=16
 dir:(aH d p).bZ=true
 s0:0<=s
 s1:s<=3
 eq:ino=((aH d p).ah.getD s.toNat aq).Ino
 i1:1<=ino
 i2:ino<=8
theorem yL {d:aa} (h:cE d) (name:ByteArray):∀ l:List Int,fZ d name l=(0,0,0)\/Found d (fZ d name l).1 (fZ d name l).2.1 (fZ d name l).2.2
 | []=> .inl rfl
 | p::l=>by
  simp only [fZ]
  cases hc:((cP d p).2&&(cP d p).1.bZ)&&decide (0<=dE (cP d p).1 name) with
  | false=>exact yL h name l
  | true =>
   rw [zB,zB,zD] at hc
   obtain ⟨⟨h1,h2⟩,h3⟩:=hc
   simp only [cP] at h1 h2 h3 ⊢
   cases hw:within p 1 d.ab.length with
   | false=>rw [hw] at h1; cases h1
   | true =>
    simp only [hw,zE] at h1 h2 h3 ⊢
    rw [ak,h.db] at hw
    have fP:=DE h3
    have h4:=dh (h.nz hw.1 hw.2) h2
    have hs:=td (h.nz hw.1 hw.2) h2 (aV aq fP)
    have hn:(((aH d p).ah.getD (dE (aH d p) name).toNat aq).Name==name)=true/\¬ name=eS:=by
     have K7:=h3
     simp only [dE] at K7 ⊢
     cases he:name==eS with
     | true=>rw [he] at K7; simp at K7
     | false =>
      simp only [he,zF] at K7 ⊢
      have T3:¬ name=eS:=by
       intro e; rw [e] at he; simp at he
      refine ⟨?_,T3⟩
      rcases gF (fun s:Slot=>s.Name==name) (aH d p).ah with e | ⟨j,e,hj⟩
      ·rw [e] at K7; omega
      ·rw [e,zC]
       exact x9 (fun s:Slot=>s.Name==name) aq _ j e
    have zb:1<=((aH d p).ah.getD (dE (aH d p) name).toNat aq).Ino/\((aH d p).ah.getD (dE (aH d p) name).toNat aq).Ino<=8:=by
     simp only [py,Bool.or_eq_true,zB,ak,beq_iff_eq] at hs
     rcases hs with hs | hs
     ·exact absurd ((beq_iff_eq.1 hn.1).symm.trans hs.1) hn.2
     ·exact hs.2
    exact .inr ⟨hw.1,hw.2,h2,h3,by show dE (aH d p) name<=3; omega,rfl,zb.1,zb.2⟩
theorem find_spec {d:aa} (h:cE d) (i:Int) (name:ByteArray):find d i name=(0,0,0)\/Found d (find d i name).1 (find d i name).2.1 (find d i name).2.2:=by
 simp only [find]
 cases within i 1 d.ad.length&&(ai d i).Kind==2 with
 | false=>exact .inl rfl
 | true=>exact yL h name _
def r7 (m:Mem) (f:Int×Int×Int):Mem×Int :=
 bif f.2.2==0 then (m,1) else
 bif ((decide (0<((o0 m.aa f.2.2).length:Int)))||(((ai m.aa f.2.2).Kind==2)&&held m f.2.2))||(!room m) then (m,5) else
 (eC m f.1 f.2.1 0,0)
def ir (m:Mem) (p:ByteArray):Mem×Int :=
 bif (!fe m)||(!(ao p).2.2) then (m,6) else r7 m (find m.aa (aD m.aa (ao p).1) (ao p).2.1)
theorem CD {n:Nat} (hn:bq<=n) (m:Mem) (hm:eU m) (p:ByteArray) (hp:p.size<=cO) (k:Mem->Int->Option R) :
  nH n m p k=k (ir m p).1 (ir m p).2/\((ir m p).1=m\/(fe m=true/\cD (ir m p).1)):=by
 obtain ⟨q1,q2,q3⟩:=mu p
 simp only [nH,ir]
 rw [dY hn m hm,pf hn p hp,mS hn m hm]
 cases hc:(!fe m)||(!(ao p).2.2) with
 | true=>exact ⟨rfl,.inl rfl⟩
 | false =>
 simp only [Bool.or_eq_false_iff,Bool.not_eq_false'] at hc
 have hT:=(lL.1 hc.1).t hm
 have Qe:=hT.d.di
 simp only [zF]
 rw [jd hn _ hm.d _ q1,qU hn _ hm.d]
 have hf:=find_spec hT.d (aD m.aa (ao p).1) (ao p).2.1
 generalize find m.aa (aD m.aa (ao p).1) (ao p).2.1=f at hf ⊢
 simp only [r7]
 cases h1:f.2.2==0 with
 | true=>exact ⟨rfl,.inl rfl⟩
 | false =>
 have F:Found m.aa f.1 f.2.1 f.2.2:=hf.resolve_left (by intro e; rw [e] at h1; cases h1)
 have i1:=F.i1
 have i2:=F.i2
 simp only [zF]
 rw [I5 hn _ hm.d _ (fun x hx=>by rw [js (hT.d.ino x hx)]; exact Nat.le_refl 2) (fun b hb=>by
  have h:=hT.d.oO b hb
  cases hd:b.bZ with
  | true=>rw [dh h hd]; exact Nat.le_refl 4
  | false =>
   simp only [fY,hd,zF,zB,beq_iff_eq] at h
   omega)]
 rw [bJ (by omega) (by omega),aj (by rw [bu i1 (by omega),Bool.or_true]),show m.aa.ad.getD (f.2.2-1).toNat ay=ai m.aa f.2.2 from rfl,
  Jj hn m hm.dp hm.d.di f.2.2 i1 (by omega) (by rw [hT.d.rK i1 i2]; decide)]
 simp only [jM]
 have er:(decide ((m.ae.length:Int)<=32)&&decide (m.Next<=99000))=room m:=rfl
 rw [er,dY hn m hm]
 have hg:∀ k:Mem->Option R,nR n f.1 f.2.1 0 m k=k (eC m f.1 f.2.1 0):=fun k =>
  AL hn hT F.p1 F.p2 F.dir F.s0 F.s1 (by rw [ak]; have:=F.eq; show 1<=((aH m.aa f.1).ah.getD f.2.1.toNat aq).Ino/\_; exact ⟨this▸i1,this▸i2⟩) (Int.le_refl 0) (by have:=hT.n1; omega) k
 have ht:cD (eC m f.1 f.2.1 0) :=
  hT.eC F.p1 F.p2 F.dir F.s0 F.s1 (by rw [ak]; have:=F.eq; show 1<=((aH m.aa f.1).ah.getD f.2.1.toNat aq).Ino/\_; exact ⟨this▸i1,this▸i2⟩) (Int.le_refl 0) (by have:=hT.n1; omega)
 rw [hg]
 cases hA:decide (0<((o0 m.aa f.2.2).length:Int))<;>cases hB:(ai m.aa f.2.2).Kind==2<;>cases hC:held m f.2.2<;>cases hD:room m <;>
  first
   | exact ⟨rfl,.inl rfl⟩
   | exact ⟨rfl,.inr ⟨hc.1,ht⟩⟩
def sG (m:Mem):Int->List ByteArray->Bool
 | _,[]=>false
 | i,x::l=>bif decide (0<(find m.aa i x).2.2)&&((iq m (fQ m (find m.aa i x).1 (find m.aa i x).2.1)==2)||(iq m (fQ m (find m.aa i x).1 (find m.aa i x).2.1)==3)) then true else sG m (find m.aa i x).2.2 l
def deep (m:Mem) (dir:ByteArray):Bool:=sG m 1 (aN dir).1
theorem H9 {n:Nat} (hn:bq<=n) (m:Mem) (hm:eU m) (p:ByteArray) (hp:p.size<=cO) (k:Bool->Option R):tR n m p k=k (deep m p):=by
 simp only [tR,deep]
 rw [nJ hn p hp]
 have hl:(aN p).1.length<=4:=by
  rcases nf p with e | e | ⟨_,_,l4⟩
  ·rw [e]; exact Nat.zero_le _
  ·rw [e]; exact Nat.zero_le _
  ·exact l4
 generalize (aN p).1=names at hl ⊢
 have loop:∀ (ps:List ByteArray) (j mm:Nat) (i:Int),ps=names.drop j->j<=names.length->ps.length<mm ->
   jB n names m.aa.au.ab m.aa.au.bB m.aa.ad m.aa.ab m.an m.ae (fun x=>k x) (k false) mm i (j:Int) m.Next=k (sG m i ps):=by
  intro ps
  induction ps with
  | nil =>
   intro j mm i h1 h2 h3
   have:j=names.length:=by have:=congrArg List.length h1; simp at this; omega
   cases mm with
   | zero=>simp at h3
   | succ mm=>simp [jB,sG,this]
  | cons x ps ih =>
   intro j mm i h1 h2 h3
   have hj:j<names.length:=by have:=congrArg List.length h1; simp at this; omega
   have P1:=cQ eS hj
   rw [← h1] at P1; injection P1 with Vq MK
   cases mm with
   | zero=>simp at h3
   | succ mm =>
    simp only [jB,bk,aG,hj,zV,zE,bf,zC,← Vq]
    refine (qU hn m.aa hm.d i x _).trans ?_
    refine (AX hn m hm.dp _ _ _).trans ?_
    refine (Bd hn _ m hm.dp _).trans ?_
    simp only [sG]
    cases decide (0<(find m.aa i x).2.2)&&((iq m (fQ m (find m.aa i x).1 (find m.aa i x).2.1)==2)||(iq m (fQ m (find m.aa i x).1 (find m.aa i x).2.1)==3)) with
    | true=>rfl
    | false =>
     simp only [zF]
     rw [bM (by omega)]
     exact ih (j+1) mm _ MK (by omega) (by simp at h3; omega)
 exact loop names 0 n 1 (by simp) (by omega) (aO hn (by omega))
theorem u7 {α S:Type} {L:Nat->Int->S->Option R} {l:List α} (d:α) {g:S->α->S} {q:S->Option R} {B:Nat} (hl:l.length<=4611686018427387904)
  (hs:∀ m i acc,B<m->i<l.length->L (m+1) (i:Int) acc=L m (aC ((i:Int)+1)) (g acc (l.getD i d)))
  (hq:∀ m acc,L (m+1) (l.length:Int) acc=q acc):∀ (r j n:Nat) (acc:S),j+r=l.length->r+B<n->L n (j:Int) acc=q ((l.drop j).foldl g acc)
 | 0,j,n,acc,hj,hn=>by
  cases n with
  | zero=>omega
  | succ n =>
   have:j=l.length:=by omega
   subst this
   rw [hq,List.drop_length]; rfl
 | r+1,j,n,acc,hj,hn=>by
  cases n with
  | zero=>omega
  | succ n =>
   rw [hs n j acc (by omega) (by omega),bM (by omega),cQ d (by omega:j<l.length),List.foldl_cons]
   exact u7 d hl hs hq r (j+1) n _ (by omega) (by omega)
def xU (i:Int) (v:List Int) (d:bO):List Int:=bif (((d.Kind==1)&&(d.Ino==i))&&(decide (0<=d.Ptr)))&&(decide (d.Ptr<(v.length:Int))) then v.set d.Ptr.toNat 0 else v
def kz (m:Mem) (i:Int):aR:=bif within i 1 m.aa.ad.length then ⟨(ai m.aa i).Kind,(ai m.aa i).Links,m.ae.foldl (xU i) (ai m.aa i).ax⟩ else aY 0
theorem CF {n:Nat} (hn:bq<=n) (m:Mem) (hm:eU m) (i:Int) (k:aR->Option R):nB n m i k=k (kz m i):=by
 have Qe:m.aa.ad.length<=2097152:=hm.d.di
 have Wu:m.ae.length<=2097152:=hm.dp
 simp only [nB,iX,kz]
 cases hw:within i 1 m.aa.ad.length with
 | false=>rfl
 | true =>
  rw [ak] at hw
  simp only [zM,zF,zE]
  rw [bJ (by omega) (by omega),aj (bu hw.1 hw.2),show m.aa.ad.getD (i-1).toNat ay=ai m.aa i from rfl,
   vp (ai m.aa i) (hm.d.ino _ (aV ay (l:=m.aa.ad) (i:=(i-1).toNat) (by omega)))]
  have:=u7 (R:=R) (L:=fa i m.ae (fun v=>k ⟨(ai m.aa i).Kind,(ai m.aa i).Links,v⟩)) (l:=m.ae) aT (g:=xU i) (q:=fun v=>k ⟨(ai m.aa i).Kind,(ai m.aa i).Links,v⟩) (B:=0) (by omega)
   (fun mm j acc _ hj=>by
    simp only [fa,bk,aG,hj,zV,bf,zE,zC,xU]
    cases hc:((((m.ae.getD j aT).Kind==1)&&((m.ae.getD j aT).Ino==i))&&(decide (0<=(m.ae.getD j aT).Ptr)))&&(decide ((m.ae.getD j aT).Ptr<(acc.length:Int))) with
    | false=>rfl
    | true =>
     simp only [zB] at hc
     simp only [zE]
     rw [aj (by simp only [aZ,zB]; exact ⟨hc.1.2,hc.2⟩)])
   (fun mm acc=>by simp [fa]) m.ae.length 0 n (ai m.aa i).ax (by omega) (aO hn (by omega))
  rw [List.drop_zero] at this
  exact this
def nC (p:Int) (v:List Slot) (d:bO):List Slot :=
 bif ((!(d.Block==p))||(decide (d.Slot<0)))||(decide ((v.length:Int)<=d.Slot)) then v else
 bif d.Kind==2 then v.set d.Slot.toNat ⟨eS,0⟩ else
 bif (d.Kind==4)&&(decide (0<d.bC)) then v.set d.Slot.toNat ⟨d.Name,d.Ino⟩ else v
def lO (m:Mem) (p:Int):Block:=bif within p 1 m.aa.ab.length then ⟨(aH m.aa p).bZ,m.ae.foldl (nC p) (aH m.aa p).ah,(aH m.aa p).Text⟩ else aA
theorem CG {n:Nat} (hn:bq<=n) (m:Mem) (hm:eU m) (p:Int) (k:Block->Option R):nI n m p k=k (lO m p):=by
 have SB:m.aa.ab.length<=2097152:=hm.d.db
 have Wu:m.ae.length<=2097152:=hm.dp
 simp only [nI,iX,lO]
 cases hw:within p 1 m.aa.ab.length with
 | false=>rfl
 | true =>
  rw [ak] at hw
  simp only [zM,zF,zE]
  rw [bJ (by omega) (by omega),aj (bu hw.1 hw.2),show m.aa.ab.getD (p-1).toNat aA=aH m.aa p from rfl,
   uY (aH m.aa p) (hm.d.oO _ (aV aA (l:=m.aa.ab) (i:=(p-1).toNat) (by omega))).1]
  have:=u7 (R:=R) (L:=c8 p m.ae (fun v=>k ⟨(aH m.aa p).bZ,v,(aH m.aa p).Text⟩)) (l:=m.ae) aT (g:=nC p) (q:=fun v=>k ⟨(aH m.aa p).bZ,v,(aH m.aa p).Text⟩) (B:=0) (by omega)
   (fun mm j acc _ hj=>by
    simp only [c8,bk,aG,hj,zV,bf,zE,zC,nC]
    cases hc:((!((m.ae.getD j aT).Block==p))||(decide ((m.ae.getD j aT).Slot<0)))||(decide ((acc.length:Int)<=(m.ae.getD j aT).Slot)) with
    | true=>rfl
    | false =>
     simp only [Bool.or_eq_false_iff,decide_eq_false_iff_not] at hc
     have hr:aZ (m.ae.getD j aT).Slot acc.length=true:=by simp only [aZ,zB,zD]; omega
     simp only [zF]
     cases h2:(m.ae.getD j aT).Kind==2 with
     | true =>
      have e2:(m.ae.getD j aT).Kind=2:=by simpa using h2
      have h4:((m.ae.getD j aT).Kind==4)=false:=by rw [e2]; rfl
      simp only [zE,h4,Bool.false_and,zF]
      rw [aj hr]
     | false =>
      simp only [zF]
      cases ((m.ae.getD j aT).Kind==4)&&(decide (0<(m.ae.getD j aT).bC)) with
      | true=>simp only [zE]; rw [aj hr]
      | false=>rfl)
   (fun mm acc=>by simp [c8]) m.ae.length 0 n (aH m.aa p).ah (by omega) (aO hn (by omega))
  rw [List.drop_zero] at this
  exact this
def AD (d:aa) (u:Int):ByteArray :=
 bif u==0 then Cb d.au else
 bif decide (u<=4) then nM (d.ad.getD (2*u-2).toNat ay)++nM (d.ad.getD (2*u-1).toNat ay) else
 nW (d.ab.getD (u-5).toNat aA)
theorem s8 (x:aR):(nM x).size<=4:=by
 simp only [nM]
 cases bj x with
 | false=>show eS.size<=4; decide
 | true=>exact Nat.le_refl 4
theorem Ba {n:Nat} (hn:bq<=n) (d:aa) (h:cE d) (u:Int) (h0:0<=u) (h1:u<=20) (k:ByteArray->Option R):pT n d u k=k (AD d u):=by
 have Qe:=h.di
 have SB:=h.db
 simp only [pT,AD]
 cases e0:u==0 with
 | true=>simp only [zE]; rw [F4 hn]
 | false =>
  have n0:¬ u=0:=by simpa using e0
  simp only [zF]
  cases e4:decide (u<=4) with
  | true =>
   have n4:=of_decide_eq_true e4
   simp only [zE]
   rw [cq (n:=2*u) (by omega) (by omega),cq (n:=2*u-2) (by omega) (by omega),cq (n:=2*u-1) (by omega) (by omega),
    aj (by simp only [aZ,zB,zD]; omega),wO hn,aj (by simp only [aZ,zB,zD]; omega),wO hn]
   have s1:=s8 (d.ad.getD (2*u-2).toNat ay)
   have s2:=s8 (d.ad.getD (2*u-1).toNat ay)
   rw [aj (iO (by omega))]
  | false =>
   have n4:=of_decide_eq_false e4
   simp only [zF]
   rw [cq (n:=u-5) (by omega) (by omega),aj (by simp only [aZ,zB,zD]; omega)]
   rw [wY hn _ (DT (h.oO _ (aV aA (by omega))))]
def wx (d:aa) (u:Int):ByteArray×Bool:=bif ll d&&within u 0 20 then (AD d u,true) else (eS,false)
theorem Ga {n:Nat} (hn:bq<=n) (d:aa) (hd:iw d) (u:Int) (k:ByteArray->Bool->Option R):qB n d u k=k (wx d u).1 (wx d u).2:=by
 simp only [qB,wx,iX]
 rw [xW hn d hd]
 cases h1:ll d with
 | false=>rfl
 | true =>
  cases h2:within u 0 20 with
  | false=>rfl
  | true =>
   rw [ak] at h2
   simp only [zM,zN,zE,zF,Bool.or_false,Bool.and_true]
   rw [Ba hn d (kD.1 h1).t u h2.1 h2.2]
def DZ (s:ByteArray):Bool:= !decide (60<(s.size:Int))
def dX (d:Device):Bool:=d.cp.all DZ&&(d.cp.length==21)
theorem sV {n:Nat} (hn:bq<=n) (d:Device) (hd:d.cp.length<=cO) (k:Bool->Option R):oh n d k=k (dX d):=by
 have zo:d.cp.length<=2097152:=hd
 have:=eZ (R:=R) (L:=iI d.cp (fun x=>k x) (k ((d.cp.length:Int)==21))) (l:=d.cp) eS (B:=0) (P:=DZ) (e:=k false) (q:=k ((d.cp.length:Int)==21)) (by omega)
  (fun m i _ hi=>by
   simp only [iI,bk,aG,hi,zV,bf,zE,zC,DZ]
   cases decide (60<((d.cp.getD i eS).size:Int))<;>rfl) (fun m=>by simp [iI]) (n:=n) (aO hn (by omega))
 refine this.trans ?_
 simp only [dX]
 rw [show (21:Int)=((21:Nat):Int) from rfl,cG]
 cases d.cp.all DZ<;>rfl
def gi (d:Device) (u:Int) (s:ByteArray):Device×Bool :=
 bif ((!dX d)||(!within u 0 20))||(decide (60<(s.size:Int))) then (d,false) else (⟨d.cp.set u.toNat s⟩,true)
theorem EV {n:Nat} (hn:bq<=n) (d:Device) (hd:d.cp.length<=cO) (u:Int) (s:ByteArray) (k:Device->Bool->Option R):pz n d u s k=k (gi d u s).1 (gi d u s).2:=by
 have zo:d.cp.length<=2097152:=hd
 simp only [pz,gi,iX,List.nil_append]
 rw [aj (cn (by omega)),sV hn d hd]
 cases h1:dX d with
 | false=>rfl
 | true =>
  cases h2:within u 0 20 with
  | false=>rfl
  | true =>
   cases h3:decide (60<(s.size:Int)) with
   | true=>rfl
   | false =>
    rw [ak] at h2
    simp only [dX,zB,beq_iff_eq] at h1
    simp only [zM,zN,zE,zF,Bool.or_false]
    rw [aj (by simp only [aZ,zB,zD]; omega)]
def Mf (f:Fs):Bool:=fe f.Mem&&dX f.Device
theorem Ss {n:Nat} (hn:bq<=n) (f:Fs) (hm:eU f.Mem) (hd:f.Device.cp.length<=cO) (k:Bool->Option R):EI n f k=k (Mf f):=by
 simp only [EI,Mf]
 rw [mS hn _ hm,sV hn _ hd]
 cases fe f.Mem<;>rfl
theorem vC {n:Nat} (hn:bq<=n) (f:Fs) (hm:eU f.Mem) (hd:f.Device.cp.length<=cO) (k:Fs->Option R):nT n f k=k f:=by
 have zo:f.Device.cp.length<=2097152:=hd
 simp only [nT,List.nil_append]
 rw [dY hn _ hm,aj (cn (by omega))]
theorem Av {α:Type} {L:Nat->Int->List α->Option R} {len B:Nat} {f:Nat->α} {q:List α->Option R}
  (hs:∀ m j v,B<m->j<len->v.length=len->L (m+1) ((j+1:Nat):Int) v=L m ((j+2:Nat):Int) (v.set j (f j)))
  (hq:∀ m v,L (m+1) ((len+1:Nat):Int) v=q v):∀ (r j n:Nat) (b:List α),j+r=len->b.length=r->r+B<n ->
   L n ((j+1:Nat):Int) ((List.range' 0 j).map f++b)=q ((List.range' 0 len).map f)
 | 0,j,n,b,hj,hb,hn=>by
  cases n with
  | zero=>omega
  | succ n =>
   have:j=len:=by omega
   subst this
   have VJ:b=[]:=List.length_eq_zero_iff.1 hb
   rw [hq,VJ,List.append_nil]
 | r+1,j,n,b,hj,hb,hn=>by
  cases n with
  | zero=>omega
  | succ n =>
   cases b with
   | nil=>simp at hb
   | cons x b =>
    have hl:((List.range' 0 j).map f).length=j:=by simp
    rw [hs n j _ (by omega) (by omega) (by rw [zK,hl]; omega),nD _ hl]
    have:=Av hs hq r (j+1) n b (by omega) (by simpa using hb) (by omega)
    rw [List.range'_concat,List.map_append,List.append_assoc] at this
    rw [show ((j+2:Nat):Int)=((j+1+1:Nat):Int) from rfl]
    refine Eq.trans ?_ this
    simp
def xX (m:Mem):aa:=⟨m.aa.au,(List.range' 0 8).map fun i=>kz m ((i+1:Nat):Int),(List.range' 0 16).map fun i=>lO m ((i+1:Nat):Int)⟩
theorem Pw {n:Nat} (hn:bq<=n) (m:Mem) (hm:eU m) (h8:m.aa.ad.length=8) (q:List aR->Option R) :
  gO n m.Next m.aa.au.ab m.aa.au.bB m.aa.ad m.aa.ab m.an m.ae q n 1 m.aa.ad=q ((List.range' 0 8).map fun i=>kz m ((i+1:Nat):Int)):=by
 have Nd:100000000<=n:=hn
 have:=Av (R:=R) (L:=gO n m.Next m.aa.au.ab m.aa.au.bB m.aa.ad m.aa.ab m.an m.ae q) (len:=8) (B:=0) (f:=fun i=>kz m ((i+1:Nat):Int)) (q:=q)
  (fun mm j v _ hj hv=>by
   have hd:decide (((j+1:Nat):Int)<=8)=true:=decide_eq_true (by omega)
   simp only [gO,hd,zE]
   refine (CF hn m hm _ _).trans ?_
   rw [cq (n:=((j+1:Nat):Int)-1) (by omega) (by omega),aj (by simp only [aZ,zB,zD]; omega),cq (by omega) (by omega)]
   rw [show (((j+1:Nat):Int)-1).toNat=j by omega,show ((j+1:Nat):Int)+1=((j+2:Nat):Int) by omega])
  (fun mm v=>rfl) 8 0 n m.aa.ad (by omega) h8 (by omega)
 simpa using this
theorem OA {n:Nat} (hn:bq<=n) (m:Mem) (hm:eU m) (h8:m.aa.ab.length=16) (q:List Block->Option R) :
  gP n m.Next m.aa.au.ab m.aa.au.bB m.aa.ad m.aa.ab m.an m.ae q n 1 m.aa.ab=q ((List.range' 0 16).map fun i=>lO m ((i+1:Nat):Int)):=by
 have Nd:100000000<=n:=hn
 have:=Av (R:=R) (L:=gP n m.Next m.aa.au.ab m.aa.au.bB m.aa.ad m.aa.ab m.an m.ae q) (len:=16) (B:=0) (f:=fun i=>lO m ((i+1:Nat):Int)) (q:=q)
  (fun mm j v _ hj hv=>by
   have hd:decide (((j+1:Nat):Int)<=16)=true:=decide_eq_true (by omega)
   simp only [gP,hd,zE]
   refine (CG hn m hm _ _).trans ?_
   rw [cq (n:=((j+1:Nat):Int)-1) (by omega) (by omega),aj (by simp only [aZ,zB,zD]; omega),cq (by omega) (by omega)]
   rw [show (((j+1:Nat):Int)-1).toNat=j by omega,show ((j+1:Nat):Int)+1=((j+2:Nat):Int) by omega])
  (fun mm v=>rfl) 16 0 n m.aa.ab (by omega) h8 (by omega)
 simpa using this
theorem I2 (i:Int) (v:List Int) (d:bO):(xU i v d).length=v.length:=by
 simp only [xU]
 cases (((d.Kind==1)&&(d.Ino==i))&&(decide (0<=d.Ptr)))&&(decide (d.Ptr<(v.length:Int))) with
 | false=>rfl
 | true=>exact List.length_set
theorem GQ (i:Int) (l:List bO):∀ v:List Int,(l.foldl (xU i) v).length=v.length:=by
 induction l with
 | nil=>intro v; rfl
 | cons d l ih=>intro v; rw [List.foldl_cons,ih,I2]
theorem H0 (p:Int) (v:List Slot) (d:bO) (hd:ru d) (hv:∀ s∈v,A2 s):(nC p v d).length=v.length/\∀ s∈nC p v d,A2 s:=by
 simp only [nC]
 cases ((!(d.Block==p))||(decide (d.Slot<0)))||(decide ((v.length:Int)<=d.Slot)) with
 | true=>exact ⟨rfl,hv⟩
 | false =>
  cases d.Kind==2 with
  | true=>exact ⟨List.length_set,fun s hs=>(mem_set hs).elim (hv s) (fun e=>by rw [e]; show eS.size<=cO; decide)⟩
  | false =>
   cases (d.Kind==4)&&(decide (0<d.bC)) with
   | true=>exact ⟨List.length_set,fun s hs=>(mem_set hs).elim (hv s) (fun e=>by rw [e]; exact hd.1)⟩
   | false=>exact ⟨rfl,hv⟩
theorem Hq (p:Int) (l:List bO):∀ v:List Slot,(∀ d∈l,ru d)->(∀ s∈v,A2 s)->(l.foldl (nC p) v).length=v.length/\∀ s∈l.foldl (nC p) v,A2 s:=by
 induction l with
 | nil=>intro v _ h; exact ⟨rfl,h⟩
 | cons d l ih =>
  intro v hl hv
  rw [List.foldl_cons]
  have h1:=H0 p v d (hl d zO) hv
  have h2:=ih (nC p v d) (fun x hx=>hl x (zJ _ hx)) h1.2
  exact ⟨h2.1.trans h1.1,h2.2⟩
theorem EJ {m:Mem} (h:cD m):iw (xX m):=by
 have hm:=h.Et
 refine ⟨hm.d.bb,hm.d.bi,?_,?_,?_,?_⟩
 ·show ((List.range' 0 8).map _).length<=cO; rw [List.length_map,List.length_range']; decide
 ·show ((List.range' 0 16).map _).length<=cO; rw [List.length_map,List.length_range']; decide
 ·intro x hx
  obtain ⟨i,_,rfl⟩:=List.mem_map.1 hx
  show (kz m _).ax.length<=cO
  simp only [kz]
  cases hw:within ((i+1:Nat):Int) 1 m.aa.ad.length with
  | false=>show (2:Nat)<=cO; decide
  | true =>
   rw [ak] at hw
   simp only [zE]
   rw [GQ]
   exact hm.d.ino _ (aV ay (by omega))
 ·intro b hb
  obtain ⟨i,_,rfl⟩:=List.mem_map.1 hb
  simp only [lO]
  cases hw:within ((i+1:Nat):Int) 1 m.aa.ab.length with
  | false=>exact ⟨Nat.zero_le _,by show eS.size<=cO; decide,fun s hs=>by cases hs⟩
  | true =>
   rw [ak] at hw
   simp only [zE]
   have hb:=hm.d.oO _ (aV aA (l:=m.aa.ab) (i:=(((i+1:Nat):Int)-1).toNat) (by omega))
   have:=Hq ((i+1:Nat):Int) m.ae (aH m.aa ((i+1:Nat):Int)).ah hm.dep hb.2.2
   exact ⟨Nat.le_trans (Nat.le_of_eq this.1) hb.1,hb.2.1,this.2⟩
def eW (m:Mem) (u:Int):ByteArray×Bool:=bif fe m&&within u 0 20 then wx (xX m) u else (eS,false)
theorem EB {n:Nat} (hn:bq<=n) (m:Mem) (hm:eU m) (u:Int) (k:ByteArray->Bool->Option R):o7 n m u k=k (eW m u).1 (eW m u).2:=by
 simp only [o7,eW,iX]
 rw [mS hn m hm]
 cases h1:fe m with
 | false=>rfl
 | true =>
  cases h2:within u 0 20 with
  | false=>rfl
  | true =>
   have hT:=(lL.1 h1).t hm
   simp only [zM,zN,zE,zF,Bool.or_false,Bool.and_true]
   rw [lR hn _ hm.d,Pw hn m hm hT.d.di,OA hn m hm hT.d.db]
   exact Ga hn (xX m) (EJ hT) u _
theorem jD {α:Type} {L:Nat->Int->List α->Option R} {f:α->α} {B:Nat} {q:List α->Option R}
  (hs:∀ m (a b:List α) x,B<m->a.length+b.length<4611686018427387904->L (m+1) (a.length:Int) (a++x::b)=L m (aC ((a.length:Int)+1)) (a++f x::b))
  (hq:∀ m (a:List α),L (m+1) (a.length:Int) a=q a):∀ (b a:List α) (n:Nat),a.length+b.length<=4611686018427387904->b.length+B<n->L n (a.length:Int) (a++b)=q (a++b.map f)
 | [],a,n,hl,hn=>by
  cases n with
  | zero=>omega
  | succ n=>rw [List.append_nil,hq,List.map_nil,List.append_nil]
 | x::b,a,n,hl,hn=>by
  cases n with
  | zero=>omega
  | succ n =>
   rw [zR] at hl hn
   rw [hs n a b x (by omega) (by omega),bM (by omega)]
   have:=jD hs hq b (a++[f x]) n (by rw [zK,zL]; omega) (by omega)
   rw [List.append_assoc,List.singleton_append,zK,zL,List.append_assoc,List.singleton_append] at this
   exact this
def mD (u:Int) (d:bO):bO:=bif (u==0)&&((d.Kind==1)||(d.Kind==2)) then { d with au:=true } else d
def mN (u:Int) (d:bO):bO:=bif ((d.Kind==2)&&(aK d.Ino==u))||((d.Kind==1)&&(aE d.Block==u)) then { d with gy:=true } else d
theorem RQ (k2 k1:Bool) (a b u:Int):(((k2&&((bif k2 then a else 0)==u)))||(k1&&((bif (!(k2&&((bif k2 then a else 0)==u)))&&k1 then b else 0)==u)))=((k2&&(a==u))||(k1&&(b==u))):=by
 cases k2<;>cases k1<;>cases h:a==u<;>simp [h]
def flag (u:Int) (m:Mem):Mem:=⟨m.aa,m.an,m.ae.map fun d=>mN u (mD u d),m.Next⟩
theorem Jo {n:Nat} (hn:bq<=n) (u:Int) (m:Mem) (hm:m.ae.length<=cO) (k:Mem->Option R):xF n u m k=k (flag u m):=by
 have MP:m.ae.length<=2097152:=hm
 have Nd:100000000<=n:=hn
 have:=jD (R:=R) (L:=fj u (fun deps=>k ⟨m.aa,m.an,deps,m.Next⟩)) (f:=fun d=>mN u (mD u d)) (B:=0) (q:=fun deps=>k ⟨m.aa,m.an,deps,m.Next⟩)
  (fun mm a b x _ hl=>by
   have hlen:∀ z:bO,(a++z::b).length=a.length+(b.length+1):=fun z=>by simp only [zK,zR]
   have fP:decide (a.length<a.length+(b.length+1))=true:=decide_eq_true (by omega)
   simp only [fj,zC,oD _ (rfl:a.length=a.length),nD _ (rfl:a.length=a.length),hlen,bk,aG,fP,zE,bf,gm,dV,RQ,mD]
   cases (u==0)&&((x.Kind==1)||(x.Kind==2)) with
   | true =>
    simp only [zE,mN]
    cases ((x.Kind==2)&&(aK x.Ino==u))||((x.Kind==1)&&(aE x.Block==u))<;>rfl
   | false =>
    simp only [zF,mN]
    cases ((x.Kind==2)&&(aK x.Ino==u))||((x.Kind==1)&&(aE x.Block==u))<;>rfl)
  (fun mm a=>by simp [fj]) m.ae [] n (by rw [List.length_nil]; omega) (by omega)
 exact this
theorem C5 {α β S:Type} {L:Nat->Int->List β->S->Option R} {l:List α} (d:α) {f:α->β} {g:S->α->S} {B:Nat} {q:List β->S->Option R} (hl:l.length<=4611686018427387904)
  (hs:∀ m i acc st,B<m->i<l.length->acc.length=i->L (m+1) (i:Int) acc st=L m (aC ((i:Int)+1)) (acc++[f (l.getD i d)]) (g st (l.getD i d)))
  (hq:∀ m acc st,L (m+1) (l.length:Int) acc st=q acc st):∀ (r j n:Nat) (acc:List β) (st:S),j+r=l.length->acc.length=j->r+B<n->L n (j:Int) acc st=q (acc++(l.drop j).map f) ((l.drop j).foldl g st)
 | 0,j,n,acc,st,hj,ha,hn=>by
  cases n with
  | zero=>omega
  | succ n =>
   have:j=l.length:=by omega
   subst this
   rw [hq,List.drop_length]; simp
 | r+1,j,n,acc,st,hj,ha,hn=>by
  cases n with
  | zero=>omega
  | succ n =>
   rw [hs n j acc st (by omega) (by omega) ha,bM (by omega),cQ d (by omega:j<l.length),List.foldl_cons,List.map_cons]
   have:=C5 d hl hs hq r (j+1) n (acc++[f (l.getD j d)]) (g st (l.getD j d)) (by omega) (by rw [zK,zL]; omega) (by omega)
   rw [List.append_assoc,List.singleton_append] at this
   exact this
def pending (l:List bO) (block:Int):Bool:=l.any fun d=>((d.Kind==1)||(d.Kind==6))&&(d.Block==block)
theorem Cy {n:Nat} (hn:bq<=n) (l:List bO) (hl:l.length<=cO) (block:Int) (k:Bool->Option R):nF n l block k=k (pending l block):=by
 have yw:l.length<=2097152:=hl
 have:=eZ (R:=R) (L:=gf block l (fun x=>k x) (k false)) (l:=l) aT (B:=0) (P:=fun d=> !(((d.Kind==1)||(d.Kind==6))&&(d.Block==block))) (e:=k true) (q:=k false) (by omega)
  (fun m i _ hi=>by
   simp only [gf,bk,aG,hi,zV,bf,zE,zC,Bool.or_true]
   cases (((l.getD i aT).Kind==1)||((l.getD i aT).Kind==6))&&((l.getD i aT).Block==block)<;>rfl) (fun m=>by simp [gf]) (n:=n) (aO hn (by omega))
 refine this.trans ?_
 rw [zy (fun d:bO=>((d.Kind==1)||(d.Kind==6))&&(d.Block==block)),pending]
 cases l.any _<;>rfl
def jv (l:List bO) (d:bO):bO :=
 bif ((d.Kind==1)&&d.au)&&d.gy then { d with Kind:=6 } else
 bif (((d.Kind==2)&&d.au)&&d.gy)&&(!pending l d.Block) then { d with Kind:=3 } else d
def yi (l:List bO) (y:List Bool) (d:bO):List Bool :=
 bif ((d.Kind==1)&&d.au)&&d.gy then bP (aK d.Ino) y else
 bif (((d.Kind==2)&&d.au)&&d.gy)&&(!pending l d.Block) then bP (aE d.Block) y else y
def ready (m:Mem):Mem:=⟨m.aa,m.ae.foldl (yi m.ae) m.an,m.ae.map (jv m.ae),m.Next⟩
theorem F9 {n:Nat} (hn:bq<=n) (m:Mem) (hm:m.ae.length<=cO) (k:Mem->Option R):mg n m k=k (ready m):=by
 have MP:m.ae.length<=2097152:=hm
 have Nd:100000000<=n:=hn
 simp only [mg,List.nil_append]
 rw [aj (cn (by omega))]
 have:=C5 (R:=R) (S:=List Bool) (L:=fun mm i acc y=>fE n m.ae m.aa.au.ab m.aa.au.bB m.aa.ad m.aa.ab m.ae (fun next list bG=>k ⟨m.aa,bG,list,next⟩) mm i m.Next acc y) (l:=m.ae) aT
  (f:=jv m.ae) (g:=yi m.ae) (B:=0) (q:=fun list bG=>k ⟨m.aa,bG,list,m.Next⟩) (by omega)
  (fun mm i acc y _ hi ha=>by
   have hlen:∀ z:bO,bg (acc++[z])=true:=fun z=>cn (by rw [zK,zL]; omega)
   simp only [fE,bk,aG,hi,zV,bf,zE,zC,gm,dV,dk,jF,Cy hn m.ae hm,hlen,jv,yi]
   cases h1:(((m.ae.getD i aT).Kind==1)&&(m.ae.getD i aT).au)&&(m.ae.getD i aT).gy with
   | true=>rfl
   | false =>
    simp only [zF]
    cases h2:(((m.ae.getD i aT).Kind==2)&&(m.ae.getD i aT).au)&&(m.ae.getD i aT).gy with
    | false=>rfl
    | true =>
     simp only [zE,Bool.true_and]
     cases pending m.ae (m.ae.getD i aT).Block<;>rfl)
  (fun mm acc y=>by simp [fE]) m.ae.length 0 n [] m.an (by omega) rfl (by omega)
 rw [List.drop_zero,List.nil_append] at this
 exact this
theorem qu {α S:Type} {L:Nat->Int->S->Option R} {l:List α} (d:α) (P:S->Prop) {g:S->α->S} {q:S->Option R} {B:Nat} (hl:l.length<=4611686018427387904)
  (hs:∀ m i acc,B<m->i<l.length->P acc->L (m+1) (i:Int) acc=L m (aC ((i:Int)+1)) (g acc (l.getD i d))/\P (g acc (l.getD i d)))
  (hq:∀ m acc,L (m+1) (l.length:Int) acc=q acc):∀ (r j n:Nat) (acc:S),j+r=l.length->r+B<n->P acc->L n (j:Int) acc=q ((l.drop j).foldl g acc)/\P ((l.drop j).foldl g acc)
 | 0,j,n,acc,hj,hn,hP=>by
  cases n with
  | zero=>omega
  | succ n =>
   have:j=l.length:=by omega
   subst this
   rw [hq,List.drop_length]; exact ⟨rfl,hP⟩
 | r+1,j,n,acc,hj,hn,hP=>by
  cases n with
  | zero=>omega
  | succ n =>
   obtain ⟨h1,h2⟩:=hs n j acc (by omega) (by omega) hP
   rw [h1,bM (by omega),cQ d (by omega:j<l.length),List.foldl_cons]
   exact qu d P hl hs hq r (j+1) n _ (by omega) (by omega) h2
def ji (bl:List Int) (bb:List Bool):List Bool:=bl.foldl (fun bb p=>bb.set (p-1).toNat false) bb
theorem N4 {n:Nat} (hn:bq<=n) (bl:List Int) (hl:bl.length<=cO) (hb:∀ p∈bl,1<=p/\p<=16) (bb:List Bool) (Zf:bb.length=16) (q:List Bool->Option R) :
  gE bl q n 0 bb=q (ji bl bb)/\(ji bl bb).length=16:=by
 have yw:bl.length<=2097152:=hl
 have:=qu (R:=R) (L:=gE bl q) (l:=bl) 0 (fun bb=>bb.length=16) (g:=fun bb p=>bb.set (p-1).toNat false) (q:=q) (B:=0) (by omega)
  (fun m i acc _ hi ha=>by
   have hp:=hb _ (aV 0 hi)
   simp only [gE,bk,aG,hi,zV,bf,zE,zC]
   rw [bJ (by omega) (by omega),aj (bu hp.1 (by omega))]
   exact ⟨rfl,List.length_set.trans ha⟩)
  (fun m acc=>by simp [gE]) bl.length 0 n bb (by omega) (aO hn (by omega)) Zf
 rw [List.drop_zero] at this
 exact this
def oM (bl:List Int) (m:Mem) (x:bO):Mem:=bif (x.Kind==4)&&has bl x.Block then iC x.Ino (bd m x.Id) else m
def r8 (d:bO) (m:Mem):Mem:=⟨⟨⟨ji d.ab m.aa.au.ab,m.aa.au.bB.set (d.Ino-1).toNat false⟩,m.aa.ad,m.aa.ab⟩,bP 0 m.an,m.ae,m.Next⟩
def ti (d:bO) (m:Mem):Mem:=(bd m d.Id).ae.foldl (oM d.ab) (r8 d (bd m d.Id))
theorem yV {n:Nat} (hn:bq<=n) {m:Mem} (h:cD m) {i:Int} (h1:1<=i) (h2:i<=8) (k:Mem->Option R):lK n i m k=k (iC i m):=by
 refine AO hn m h.Et i h1 (by rw [h.d.di]; exact h2) ?_ (by rw [h.d.rK h1 h2]; decide) k
 have:=h.d.sF h1 h2
 simp only [bj,zB] at this
 exact this.2.1
theorem dq {m:Mem} {d:bO} (h:bF m d=true):1<=d.Ino/\d.Ino<=8:=by
 simp only [bF,zB,ak] at h
 exact h.2.2.1
theorem GR {n:Nat} (hn:bq<=n) (d:bO) (m:Mem) (h:cD m) (hi:1<=d.Ino/\d.Ino<=8) (hb:∀ p∈d.ab,1<=p/\p<=16) (Yt:d.ab.length<=cO) (k:Mem->Option R) :
  qy n d m k=k (ti d m)/\cD (ti d m):=by
 have Nd:100000000<=n:=hn
 have h1:=h.drop d.Id
 have Wu:=h1.dp
 simp only [qy]
 rw [oA hn m h.Et]
 obtain ⟨e3,l3⟩:=N4 (R:=R) hn d.ab Yt hb (bd m d.Id).aa.au.ab h1.d.bb (fun bb =>
  aJ (aZ (aC (d.Ino-1)) (bd m d.Id).aa.au.bB.length) <|
  bW 0 ⟨⟨⟨bb,(bd m d.Id).aa.au.bB.set ((aC (d.Ino-1)).toNat) false⟩,(bd m d.Id).aa.ad,(bd m d.Id).aa.ab⟩,(bd m d.Id).an,(bd m d.Id).ae,(bd m d.Id).Next⟩ fun mo =>
  eR n (bd m d.Id).ae d.ab (fun next Qm bi di db bG deps =>
   k ⟨⟨⟨Qm,bi⟩,di,db⟩,bG,deps,next⟩) n 0 mo.Next bb ((bd m d.Id).aa.au.bB.set ((aC (d.Ino-1)).toNat) false) (bd m d.Id).aa.ad (bd m d.Id).aa.ab mo.an (bd m d.Id).ae)
 have h2:cD (r8 d (bd m d.Id)):=(h1.ye (h1.d.tT (bb:=ji d.ab (bd m d.Id).aa.au.ab) (bi:=(bd m d.Id).aa.au.bB.set (d.Ino-1).toNat false) l3 (List.length_set.trans h1.d.bi))).mark 0
 have loop:=qu (R:=R) (S:=Mem) (L:=fun mm i acc=>eR n (bd m d.Id).ae d.ab (fun next Qm bi di db bG deps=>k ⟨⟨⟨Qm,bi⟩,di,db⟩,bG,deps,next⟩) mm i acc.Next acc.aa.au.ab acc.aa.au.bB acc.aa.ad acc.aa.ab acc.an acc.ae)
  (l:=(bd m d.Id).ae) aT cD (g:=oM d.ab) (q:=k) (B:=0) (by omega)
  (fun mm i acc _ fP ha=>by
   have hx:=dq (h1.num _ (aV aT fP))
   simp only [eR,bk,aG,fP,zV,bf,zE,zC,Bool.or_true,xz hn d.ab Yt,oM]
   cases hk:((bd m d.Id).ae.getD i aT).Kind==4 with
   | false=>exact ⟨rfl,ha⟩
   | true =>
    cases hh:has d.ab ((bd m d.Id).ae.getD i aT).Block with
    | false=>exact ⟨rfl,ha⟩
    | true =>
     have hd:=ha.drop ((bd m d.Id).ae.getD i aT).Id
     simp only [zE,Bool.and_true]
     refine ⟨?_,hd.iC hx.1 hx.2⟩
     refine (oA hn acc ha.Et _ _).trans ?_
     exact yV hn hd hx.1 hx.2 _)
  (fun mm acc=>by simp [eR]) (bd m d.Id).ae.length 0 n (r8 d (bd m d.Id)) (by omega) (by omega) h2
 rw [List.drop_zero] at loop
 refine ⟨?_,loop.2⟩
 refine e3.trans ?_
 rw [bJ (by omega) (by omega),aj (bu hi.1 (by rw [h1.d.bi]; exact hi.2)),dk,jF]
 exact loop.1
def iB (u:Int) (o:Mem) (d:bO):Mem :=
 bif (d.Kind==6)&&(aK d.Ino==u) then bd o d.Id else
 bif (d.Kind==5)&&(aK d.Ino==u) then ti d o else
 bif (d.Kind==3)&&(aE d.Block==u) then shown d.Id 0 o else
 bif ((d.Kind==4)&&(d.bC==0))&&(aE d.Block==u) then iC d.Ino (bd o d.Id) else o
def clean (u:Int) (m:Mem):Mem:=⟨m.aa,m.an.set u.toNat false,m.ae,m.Next⟩
def done (m:Mem) (u:Int):Mem:=bif fe m&&within u 0 20 then ready (m.ae.foldl (iB u) (flag u (clean u m))) else m
theorem kA (u:Int) (d:bO):(mN u (mD u d)).Id=d.Id/\(mN u (mD u d)).Kind=d.Kind/\(mN u (mD u d)).Ino=d.Ino/\(mN u (mD u d)).Ptr=d.Ptr/\(mN u (mD u d)).Block=d.Block/\(mN u (mD u d)).Slot=d.Slot/\(mN u (mD u d)).Name=d.Name/\(mN u (mD u d)).bC=d.bC/\(mN u (mD u d)).ab=d.ab:=by
 simp only [mD,mN]
 cases (u==0)&&((d.Kind==1)||(d.Kind==2))<;>simp only [zE,zF] <;>
  cases ((d.Kind==2)&&(aK d.Ino==u))||((d.Kind==1)&&(aE d.Block==u))<;>simp
theorem Eh {m m':Mem} {d d':bO} (hn:m'.Next=m.Next) (h1:d'.Id=d.Id) (h2:d'.Kind=d.Kind) (h3:d'.Ino=d.Ino) (h4:d'.Ptr=d.Ptr) (h5:d'.Block=d.Block) (h6:d'.Slot=d.Slot) (h7:d'.bC=d.bC):bF m' d'=bF m d:=by
 simp only [bF,hn,h1,h2,h3,h4,h5,h6,h7]
theorem cD.flag {m:Mem} (h:cD m) (u:Int):cD (Soft.flag u m):=by
 refine ⟨h.d,h.dy,?_,h.n1,h.n2,?_,?_,?_⟩
 ·simp only [Soft.flag,List.length_map]; exact h.dp
 ·intro x hx
  simp only [Soft.flag,List.mem_map] at hx
  obtain ⟨d,hd,rfl⟩:=hx
  obtain ⟨a1,a2,a3,a4,a5,a6,a7,a8,a9⟩:=kA u d
  exact (Eh (m:=m) rfl a1 a2 a3 a4 a5 a6 a8).trans (h.num d hd)
 ·intro x hx
  simp only [Soft.flag,List.mem_map] at hx
  obtain ⟨d,hd,rfl⟩:=hx
  obtain ⟨a1,a2,a3,a4,a5,a6,a7,a8,a9⟩:=kA u d
  rw [a9]; exact h.bs d hd
 ·intro x hx
  simp only [Soft.flag,List.mem_map] at hx
  obtain ⟨d,hd,rfl⟩:=hx
  obtain ⟨a1,a2,a3,a4,a5,a6,a7,a8,a9⟩:=kA u d
  simp only [ru,a7,a9]; exact h.sz d hd
theorem IG {m m':Mem} (hn:m'.Next=m.Next) (l:List bO) {d:bO} (h:bF m d=true):bF m' (jv l d)=true:=by
 simp only [jv]
 cases ((d.Kind==1)&&d.au)&&d.gy with
 | true =>
  simp only [bF,zB,ak,zE,hn] at h ⊢
  exact ⟨h.1,by omega,h.2.2⟩
 | false =>
  cases (((d.Kind==2)&&d.au)&&d.gy)&&(!pending l d.Block) with
  | true =>
   simp only [bF,zB,ak,zE,zF,hn] at h ⊢
   exact ⟨h.1,by omega,h.2.2⟩
  | false=>rw [← h]; simp only [zF,bF,hn]
theorem sL (l:List bO) (d:bO):(jv l d).Id=d.Id/\(jv l d).Ino=d.Ino/\(jv l d).Ptr=d.Ptr/\(jv l d).Block=d.Block/\(jv l d).Slot=d.Slot/\(jv l d).Name=d.Name/\(jv l d).bC=d.bC/\(jv l d).ab=d.ab:=by
 simp only [jv]
 cases ((d.Kind==1)&&d.au)&&d.gy<;>simp only [zE,zF] <;>
  cases (((d.Kind==2)&&d.au)&&d.gy)&&(!pending l d.Block)<;>simp
theorem va (l:List bO):∀ (s:List bO) (y:List Bool),(s.foldl (yi l) y).length=y.length
 | [],y=>rfl
 | d::s,y=>by
  rw [List.foldl_cons,va l s]
  simp only [yi]
  cases ((d.Kind==1)&&d.au)&&d.gy<;>simp only [zE,zF,cK]
  cases (((d.Kind==2)&&d.au)&&d.gy)&&(!pending l d.Block)<;>simp only [zE,zF,cK]
theorem cD.ready {m:Mem} (h:cD m):cD (Soft.ready m):=by
 refine ⟨h.d,(va _ _ _).trans h.dy,?_,h.n1,h.n2,?_,?_,?_⟩
 ·simp only [Soft.ready,List.length_map]; exact h.dp
 ·intro x hx
  simp only [Soft.ready,List.mem_map] at hx
  obtain ⟨d,hd,rfl⟩:=hx
  exact IG rfl _ (h.num d hd)
 ·intro x hx
  simp only [Soft.ready,List.mem_map] at hx
  obtain ⟨d,hd,rfl⟩:=hx
  rw [(sL _ d).2.2.2.2.2.2.2]; exact h.bs d hd
 ·intro x hx
  simp only [Soft.ready,List.mem_map] at hx
  obtain ⟨d,hd,rfl⟩:=hx
  have:=sL m.ae d
  simp only [ru,this.2.2.2.2.2.1,this.2.2.2.2.2.2.2]; exact h.sz d hd
theorem cD.clean {m:Mem} (h:cD m) (u:Int):cD (Soft.clean u m):=h.bG (List.length_set.trans h.dy)
theorem JM {n:Nat} (hn:bq<=n) (m:Mem) (hm:eU m) (u:Int) (k:Mem->Option R) :
  Ei n m u k=k (done m u)/\(done m u=m\/(fe m=true/\cD (done m u))):=by
 have Nd:100000000<=n:=hn
 simp only [Ei,done,iX]
 rw [dY hn m hm,mS hn m hm]
 cases xi:fe m with
 | false=>exact ⟨rfl,.inl rfl⟩
 | true =>
 cases hw:within u 0 20 with
 | false=>exact ⟨rfl,.inl rfl⟩
 | true =>
 have hT:=(lL.1 xi).t hm
 have Wu:=hT.dp
 rw [ak] at hw
 simp only [zM,zN,zE,zF,Bool.or_false,Bool.and_true]
 rw [aj (by simp only [aZ,zB,zD]; have:=hT.dy; omega),Jo hn u ⟨m.aa,m.an.set u.toNat false,m.ae,m.Next⟩ hm.dp]
 have h2:cD (flag u (clean u m)):=(hT.clean u).flag u
 have loop:=qu (R:=R) (S:=Mem) (L:=fun mm i acc=>iM n u m.ae (fun v eF dx fX jb lF ix=>mg n ⟨⟨⟨eF,dx⟩,fX,jb⟩,lF,ix,v⟩ fun j6=>k j6) mm i acc.Next acc.aa.au.ab acc.aa.au.bB acc.aa.ad acc.aa.ab acc.an acc.ae)
  (l:=m.ae) aT cD (g:=iB u) (q:=fun o=>mg n o k) (B:=0) (by omega)
  (fun mm i acc _ fP ha=>by
   have eE:=aV aT fP
   have hx:=dq (hT.num _ eE)
   have QJ:=hT.bs _ eE
   have mn:=hT.sz _ eE
   generalize MR:m.ae.getD i aT=el at hx QJ mn
   simp only [iM,bk,aG,fP,zV,bf,zE,zC,gm,dV,iB,MR]
   have e6:((el.Kind==6)&&((bif el.Kind==6 then aK el.Ino else 0)==u))=((el.Kind==6)&&(aK el.Ino==u)):=by cases el.Kind==6<;>rfl
   have e5:((el.Kind==5)&&((bif el.Kind==5 then aK el.Ino else 0)==u))=((el.Kind==5)&&(aK el.Ino==u)):=by cases el.Kind==5<;>rfl
   have e3:((el.Kind==3)&&((bif el.Kind==3 then aE el.Block else 0)==u))=((el.Kind==3)&&(aE el.Block==u)):=by cases el.Kind==3<;>rfl
   have e4:(((el.Kind==4)&&(el.bC==0))&&((bif (el.Kind==4)&&(el.bC==0) then aE el.Block else 0)==u))=(((el.Kind==4)&&(el.bC==0))&&(aE el.Block==u)):=by cases (el.Kind==4)&&(el.bC==0)<;>rfl
   rw [e6,e5,e3,e4]
   cases h6:(el.Kind==6)&&(aK el.Ino==u) with
   | true=>simp only [zE]; exact ⟨oA hn acc ha.Et _ _,ha.drop _⟩
   | false =>
   simp only [zF]
   cases h5:(el.Kind==5)&&(aK el.Ino==u) with
   | true =>
    have:=fun k=>GR (R:=R) hn el acc ha hx (fun p hp=>ak.1 (List.all_eq_true.1 QJ p hp)) mn.2 k
    simp only [zE]
    exact ⟨(this _).1,(this fun _=>none).2⟩
   | false =>
   simp only [zF]
   cases h3:(el.Kind==3)&&(aE el.Block==u) with
   | true=>simp only [zE]; exact ⟨yI hn acc ha.Et _ _ _,ha.shown _ _ (Int.le_refl 0) (by have:=ha.n1; omega)⟩
   | false =>
   simp only [zF]
   cases h4:((el.Kind==4)&&(el.bC==0))&&(aE el.Block==u) with
   | true =>
    have hd:=ha.drop el.Id
    simp only [zE]
    refine ⟨?_,hd.iC hx.1 hx.2⟩
    refine (oA hn acc ha.Et _ _).trans ?_
    exact yV hn hd hx.1 hx.2 _
   | false=>exact ⟨rfl,ha⟩)
  (fun mm acc=>by simp [iM]) m.ae.length 0 n (flag u (clean u m)) (by omega) (by omega) h2
 rw [List.drop_zero] at loop
 refine ⟨?_,.inr ⟨trivial,loop.2.ready⟩⟩
 refine loop.1.trans ?_
 exact F9 hn _ (Nat.le_trans loop.2.dp (by decide)) k
def cX (m:Mem) (i:Int):Mem:=⟨aP m.aa i ⟨(ai m.aa i).Kind,(ai m.aa i).Links+1,(ai m.aa i).ax⟩,bP (aK i) m.an,m.ae,m.Next⟩
def EL (m:Mem) (f:Int×Int×Int) (t:Mem×Int):Mem×Int:=bif t.2==0 then (m,4) else (eC t.1 f.1 f.2.1 t.2,0)
def xP (m:Mem) (f:Int×Int×Int) (w:Int) (to name q:ByteArray):Mem×Int :=
 bif (f.2.2==0)||(w==0) then (m,1) else
 bif (!((ai m.aa f.2.2).Kind==1))||(!((ai m.aa w).Kind==2)) then (m,3) else
 bif !(aD m.aa q==0) then (m,2) else
 bif waits m w name||deep m to then (m,5) else
 bif !room m then (m,4) else
 bif decide (200<=(ai m.aa f.2.2).Links) then (m,5) else
 EL m f (dK (cX m f.2.2) w name f.2.2)
def jl (m:Mem) (p q:ByteArray):Mem×Int :=
 bif ((!fe m)||(!(ao p).2.2))||(!(ao q).2.2) then (m,6) else
 xP m (find m.aa (aD m.aa (ao p).1) (ao p).2.1) (aD m.aa (ao q).1) (ao q).1 (ao q).2.1 q
def dv (f:Fs) (u:Int):Fs×Bool :=
 bif (!Mf f)||(!(eW f.Mem u).2) then (f,false) else
 bif !(gi f.Device u (eW f.Mem u).1).2 then (f,false) else (⟨done f.Mem u,(gi f.Device u (eW f.Mem u).1).1⟩,true)
end Go.Soft
namespace Go.Soft
open Go
def I8 (i:Int):Prop:=1<=i/\i<=8
def lz (p:Int):Prop:=1<=p/\p<=16
def aX (d:aa) (i:Int) (k:Nat):Int:=(ai d i).ax.getD k 0
def aU (d:aa) (i:Int):Int:=(ai d i).Kind
def gM (d:aa) (i:Int):Int:=(ai d i).Links
def cA (d:aa) (p:Int) (s:Nat):Slot:=(aH d p).ah.getD s aq
def Ca (d:aa) (p:Int):Bool:=d.au.ab.getD (p-1).toNat false
def CA (d:aa) (i:Int):Bool:=d.au.bB.getD (i-1).toNat false
def m9 (d:aa) (p:Int):Prop:=∃ i k,I8 i/\aU d i=2/\aX d i k=p
def qJ (d:aa) (p:Int):Bool:=d.ad.any fun x=>x.Kind==2&&has x.ax p
def wk (b:Block) (j:Int):Nat:=b.ah.countP (·.Ino==j)
def jW (d:aa) (j p:Int):Nat:=bif qJ d p then wk (aH d p) j else 0
def kW (d:aa) (j:Int):Nat:=((List.range' 1 16).map fun q:Nat=>jW d j q).sum
def gj (l:List bO) (j:Int):Nat:=l.countP fun d=>d.Kind==4&&d.Ino==j
theorem cF {α:Type} (l:List α) (i j:Nat) (x d:α):(l.set i x).getD j d=if j=i/\i<l.length then x else l.getD j d:=by
 simp only [zT,List.getElem?_set]
 by_cases h:i=j
 ·subst h
  by_cases h2:i<l.length
  ·simp [h2]
  ·simp [h2]
 ·simp [h,Ne.symm h]
theorem nE {d:aa} (h:d.ad.length=8) {i j:Int} (hi:I8 i) (hj:I8 j) (x:aR):ai (aP d i x) j=if j=i then x else ai d j:=by
 simp only [ai,aP,cF,h]
 obtain ⟨a,b⟩:=hi; obtain ⟨a',b'⟩:=hj
 by_cases hh:j=i
 ·subst hh; simp; omega
 ·rw [if_neg (by omega),if_neg hh]
theorem ik {d:aa} (h:d.ab.length=16) {p q:Int} (hp:lz p) (hq:lz q) (b:Block):aH (ca d p b) q=if q=p then b else aH d q:=by
 simp only [aH,ca,cF,h]
 obtain ⟨a,b⟩:=hp; obtain ⟨a',b'⟩:=hq
 by_cases hh:q=p
 ·subst hh; simp; omega
 ·rw [if_neg (by omega),if_neg hh]
theorem Fb {l:List Int} {x:Int}:has l x=true↔x∈l:=by simp [has]
theorem mB {l:List Int} {x:Int} (hx:x≠0):x∈l↔∃ k,l.getD k 0=x:=by
 constructor
 ·intro h
  obtain ⟨k,hk,rfl⟩:=List.mem_iff_getElem.1 h
  exact ⟨k,fc _ _ hk⟩
 ·rintro ⟨k,rfl⟩
  by_cases hk:k<l.length
  ·exact aV 0 hk
  ·exact absurd (by simp [zT,List.getElem?_eq_none (Nat.le_of_not_lt hk)]) hx
theorem I8.mem {d:aa} (h:d.ad.length=8) {x:aR}:x∈d.ad↔∃ i,I8 i/\ai d i=x:=by
 constructor
 ·intro hx
  obtain ⟨k,hk,rfl⟩:=List.mem_iff_getElem.1 hx
  refine ⟨(k:Int)+1,⟨by omega,by omega⟩,?_⟩
  simp only [ai]
  rw [show ((k:Int)+1-1).toNat=k by omega]
  exact fc _ _ hk
 ·rintro ⟨i,⟨a,b⟩,rfl⟩
  exact aV _ (by omega)
theorem jz {d:aa} (h:d.ad.length=8) {p:Int} (hp:p≠0):qJ d p=true↔m9 d p:=by
 simp only [qJ,List.any_eq_true,zB,beq_iff_eq,Fb,m9]
 constructor
 ·rintro ⟨x,hx,hk,hm⟩
  obtain ⟨i,hi,rfl⟩:=(I8.mem h).1 hx
  obtain ⟨k,uy⟩:=(mB hp).1 hm
  exact ⟨i,k,hi,hk,uy⟩
 ·rintro ⟨i,k,hi,hk,hm⟩
  exact ⟨_,(I8.mem h).2 ⟨i,hi,rfl⟩,hk,(mB hp).2 ⟨k,hm⟩⟩
theorem DP {l:List Nat} {f g:Nat->Nat} (h:∀ q∈l,f q=g q):(l.map f).sum=(l.map g).sum:=by rw [List.map_congr_left h]
theorem Kq {f g:Nat->Nat} {p:Nat}:∀ {l:List Nat},l.Nodup->p∈l->(∀ q∈l,q≠p->f q=g q)->(l.map f).sum+g p=(l.map g).sum+f p
 | [],_,hp,_=>by cases hp
 | x::l,hn,hp,h=>by
  simp only [List.map_cons,List.sum_cons]
  obtain ⟨h1,h2⟩:=List.nodup_cons.1 hn
  by_cases hx:x=p
  ·subst hx
   have:(l.map f).sum=(l.map g).sum:=DP fun q hq=>h q (zJ _ hq) (by rintro rfl; exact h1 hq)
   omega
  ·have yy:p∈l:=by
    cases hp with
    | head=>exact absurd rfl hx
    | tail _ h=>exact h
   have:=Kq h2 yy fun q hq=>h q (zJ _ hq)
   have:=h x zO hx
   omega
theorem nN {d d':aa} {j:Int} (h:∀ p,lz p->jW d' j p=jW d j p):kW d' j=kW d j :=
 DP fun q hq=>h q (by simp [List.mem_range'] at hq; exact ⟨by omega,by omega⟩)
theorem Se {d d':aa} {j p:Int} (hp:lz p) (h:∀ q,lz q->q≠p->jW d' j q=jW d j q):kW d' j+jW d j p=kW d j+jW d' j p:=by
 obtain ⟨p1,p2⟩:=hp
 have:=Kq (f:=fun q:Nat=>jW d' j q) (g:=fun q:Nat=>jW d j q) (p:=p.toNat) (l:=List.range' 1 16) List.nodup_range' (by rw [List.mem_range'_1]; omega)
  (fun q hq cL=>h q (by simp [List.mem_range'] at hq; exact ⟨by omega,by omega⟩) (by omega))
 simp only [Int.toNat_of_nonneg (show 0<=p by omega)] at this
 exact this
theorem GH {f:Nat->Nat}:∀ {l:List Nat},(l.map f).sum=0↔∀ q∈l,f q=0
 | []=>by simp
 | x::l=>by simp [GH (l:=l)]
theorem qq {b:Block} {j:Int}:wk b j=0↔∀ s∈b.ah,s.Ino≠j:=by simp [wk]
theorem Pq {d:aa} {j:Int}:kW d j=0↔∀ p,lz p->qJ d p=true->∀ s∈(aH d p).ah,s.Ino≠j:=by
 simp only [kW,GH]
 constructor
 ·intro h p hp ho
  have:=h p.toNat (by rw [List.mem_range'_1]; obtain ⟨a,b⟩:=hp; omega)
  rw [Int.toNat_of_nonneg (by obtain ⟨a,b⟩:=hp; omega)] at this
  simp only [jW,ho,zE] at this
  exact qq.1 this
 ·intro h q hq
  have hq':lz (q:Int):=by simp [List.mem_range'] at hq; exact ⟨by omega,by omega⟩
  simp only [jW]
  cases ho:qJ d q with
  | false=>rfl
  | true=>exact qq.2 (h q hq' ho)
theorem countP_set {α:Type} (P:α->Bool) (x d:α):∀ (l:List α) (i:Nat),i<l.length->(l.set i x).countP P+(bif P (l.getD i d) then 1 else 0)=l.countP P+(bif P x then 1 else 0)
 | [],i,h=>by simp at h
 | y::l,0,h=>by
  simp only [List.set_cons_zero,List.countP_cons,List.getD_cons_zero]
  cases P x<;>cases P y<;>simp
 | y::l,i+1,h=>by
  have:=countP_set P x d l i (by simpa using h)
  simp only [List.set_cons_succ,List.countP_cons,List.getD_cons_succ]
  omega
theorem Mm {b:Block} {s:Nat} (hs:s<b.ah.length) (x:Slot) (j:Int):wk (eV b s x) j+(if (b.ah.getD s aq).Ino=j then 1 else 0)=wk b j+(if x.Ino=j then 1 else 0):=by
 have:=countP_set (fun s:Slot=>s.Ino==j) x aq b.ah s hs
 simp only [wk,eV]
 have e:∀ y:Slot,(bif y.Ino==j then 1 else 0)=(if y.Ino=j then 1 else 0):=fun y=>by
  by_cases h:y.Ino=j
  ·simp [h]
  ·rw [beq_eq_false_iff_ne.2 h]; simp [h]
 rw [e,e] at this
 exact this
structure DG (d:aa):Prop where
 one:∀ i k j l,I8 i->I8 j->aX d i k=aX d j l->aX d i k≠0->i=j/\k=l
 bm:∀ i k,I8 i->aX d i k≠0->Ca d (aX d i k)=true
 Nb:∀ i,I8 i->aU d i≠0->CA d i=true
 pk:∀ i k,I8 i->aX d i k≠0->((aH d (aX d i k)).bZ=true↔aU d i=2)
 nm:∀ p s,lz p->m9 d p->(cA d p s).Ino≠0->aU d (cA d p s).Ino≠0/\(cA d p s).Ino≠1
 ne:∀ i k s,I8 i->i≠1->aU d i=2->kW d i=0->aX d i k≠0->(cA d (aX d i k) s).Ino=0
 dl:∀ j,I8 j->aU d j=2->gM d j=1
 rt:aU d 1=2
 un:∀ i k l s t,I8 i->aU d i=2->aX d i k≠0->aX d i l≠0->(cA d (aX d i k) s).Ino≠0->(cA d (aX d i k) s).Name=(cA d (aX d i l) t).Name->k=l/\s=t
 rk:∃ r:Int->Nat,r 1=0/\∀ i k s,I8 i->aU d i=2->aX d i k≠0->(cA d (aX d i k) s).Ino≠0->aU d (cA d (aX d i k) s).Ino=2->r (cA d (aX d i k) s).Ino=r i+1/\r i<4
structure Gd (e:Int) (X:List Int) (m:Mem):Prop where
 R:fy m
 sz:∀ d∈m.ae,ru d
 g:DG m.aa
 fr:∀ d∈m.ae,d.Kind=5->aU m.aa d.Ino=0/\CA m.aa d.Ino=true/\d.ab.Nodup/\∀ p∈d.ab,Ca m.aa p=true/\∀ i k,I8 i->aX m.aa i k≠p
 Ed:m.ae.Pairwise fun a b=>a.Kind=5->b.Kind=5->a.Ino≠b.Ino/\∀ p∈a.ab,p∉b.ab
 lk:∀ j,I8 j->j≠1->aU m.aa j≠0->gM m.aa j=(kW m.aa j:Int)+gj m.ae j+(if e=j then 1 else 0)
 Cp:∀ j,I8 j->aU m.aa j=0->gj m.ae j=0/\e≠j
 rt:gj m.ae 1=0/\e≠1
 nd:∀ d∈m.ae,d.Kind=2\/d.Kind=3->m9 m.aa d.Block
 rd:∀ d∈m.ae,d.Kind=4->cA m.aa d.Block d.Slot.toNat=aq/\(m9 m.aa d.Block\/d.Block∈X\/∃ f∈m.ae,f.Kind=5/\d.Block∈f.ab)
 us:m.ae.Pairwise fun a b=>jQ a=true->jQ b=true->a.Block=b.Block->a.Slot≠b.Slot
 af:∀ d∈m.ae,d.Kind=4->d.bC≠0->∃ x∈m.ae,x.Id=d.bC/\(x.Kind=2\/x.Kind=3)/\x.Ino=d.Ino
theorem Gd.T {e:Int} {X:List Int} {m:Mem} (h:Gd e X m):cD m :=
 h.R.t ⟨h.R.d.t.sz,by rw [h.R.dy]; decide,Nat.le_trans h.R.dp (by decide),h.sz⟩
theorem Gd.bG {e:Int} {X:List Int} {m:Mem} (h:Gd e X m) {y:List Bool} (hy:y.length=21):Gd e X ⟨m.aa,y,m.ae,m.Next⟩ :=
 ⟨h.R.bG hy,h.sz,h.g,h.fr,h.Ed,h.lk,h.Cp,h.rt,h.nd,h.rd,h.us,h.af⟩
theorem cE.ptr {d:aa} (h:cE d) {i:Int} (hi:I8 i) (k:Nat):(k<=1/\lz (aX d i k))\/aX d i k=0:=by
 have h1:=h.sF hi.1 hi.2
 by_cases hk:k<(ai d i).ax.length
 ·have h2:=js h1
  simp only [bj,zB,List.all_eq_true] at h1
  have:=(h1.2.2.2.1 _ (aV 0 hk)).1
  rw [ak] at this
  by_cases h0:aX d i k=0
  ·exact .inr h0
  ·exact .inl ⟨by omega,by simp only [aX] at h0 ⊢; constructor<;>omega⟩
 ·exact .inr (by simp [aX,zT,List.getElem?_eq_none (Nat.le_of_not_lt hk)])
theorem cE.slot {d:aa} (h:cE d) {p:Int} (hp:lz p) (s:Nat):cA d p s=aq\/(s<=3/\(aH d p).bZ=true/\py (cA d p s)=true):=by
 have h1:=h.nz hp.1 hp.2
 by_cases hs:s<(aH d p).ah.length
 ·cases hd:(aH d p).bZ with
  | false=>simp only [fY,hd,zF,zB,beq_iff_eq] at h1; omega
  | true=>exact .inr ⟨by have:=dh h1 hd; omega,rfl,td h1 hd (aV aq hs)⟩
 ·exact .inl (by simp [cA,zT,List.getElem?_eq_none (Nat.le_of_not_lt hs)])
theorem LV {s:Slot} (h:py s=true):s=⟨eS,0⟩\/(bH s.Name=true/\I8 s.Ino):=by
 obtain ⟨n,i⟩:=s
 simp only [py,Bool.or_eq_true,zB,beq_iff_eq,ak] at h
 rcases h with ⟨rfl,rfl⟩ | ⟨a,b⟩
 ·exact .inl rfl
 ·exact .inr ⟨a,b⟩
theorem FT:aq=⟨eS,0⟩:=rfl
theorem cE.vQ {d:aa} (h:cE d) {p:Int} (hp:lz p) (s:Nat):cA d p s=aq\/(s<=3/\(aH d p).bZ=true/\bH (cA d p s).Name=true/\I8 (cA d p s).Ino):=by
 rcases h.slot hp s with h | ⟨h1,h2,h3⟩
 ·exact .inl h
 ·rcases LV h3 with h | ⟨a,b⟩
  ·exact .inl h
  ·exact .inr ⟨h1,h2,a,b⟩
theorem n6 {d d':aa} (hk:∀ i,I8 i->aU d' i=aU d i) (hp:∀ i k,I8 i->aX d' i k=aX d i k) (p:Int):m9 d' p↔m9 d p:=by
 constructor
 ·rintro ⟨i,k,hi,h1,h2⟩; exact ⟨i,k,hi,by rw [← hk i hi]; exact h1,by rw [← hp i k hi]; exact h2⟩
 ·rintro ⟨i,k,hi,h1,h2⟩; exact ⟨i,k,hi,by rw [hk i hi]; exact h1,by rw [hp i k hi]; exact h2⟩
theorem xN {d d':aa} (h8:d.ad.length=8) (X5:d'.ad.length=8) {p:Int} (hp:p≠0) (h:m9 d' p↔m9 d p):qJ d' p=qJ d p:=by
 rw [Bool.eq_iff_iff,jz h8 hp,jz X5 hp,h]
theorem uZ {d d':aa} (hb:d'.ab=d.ab) (p:Int):aH d' p=aH d p:=by simp only [aH,hb]
theorem Ob {d d':aa} (hb:d'.ab=d.ab) (p:Int) (s:Nat):cA d' p s=cA d p s:=by simp only [cA,uZ hb]
theorem oi {d d':aa} (h8:d.ad.length=8) (X5:d'.ad.length=8) (hk:∀ i,I8 i->aU d' i=aU d i) (hp:∀ i k,I8 i->aX d' i k=aX d i k) (hb:d'.ab=d.ab) (j:Int):kW d' j=kW d j :=
 nN fun p yy=>by
  simp only [jW,uZ hb]
  rw [xN h8 X5 (by obtain ⟨a,b⟩:=yy; omega) (n6 hk hp p)]
theorem DG.same {d d':aa} (T:cE d) (g:DG d) (h8:d'.ad.length=8) (hb:d'.ab=d.ab) (hk:∀ i,I8 i->aU d' i=aU d i) (hp:∀ i k,I8 i->aX d' i k=aX d i k)
  (hl:∀ i,I8 i->aU d i=2->gM d' i=gM d i) (hm:∀ i k,I8 i->aX d i k≠0->Ca d' (aX d i k)=true) (hi:∀ i,I8 i->aU d i≠0->CA d' i=true):DG d':=by
 have ho:=n6 hk hp
 have hs:=Ob hb
 have hc:=oi T.di h8 hk hp hb
 have hB:∀ i k,I8 i->aX d i k≠0->lz (aX d i k):=fun i k hi h0=>((T.ptr hi k).resolve_right h0).2
 have hI:∀ p s,lz p->(cA d p s).Ino≠0->I8 (cA d p s).Ino:=fun p s hp h0=>by
  rcases T.vQ hp s with h | h
  ·rw [h] at h0; exact absurd rfl h0
  ·exact h.2.2.2
 refine ⟨?_,?_,?_,?_,?_,?_,?_,?_,?_,?_⟩
 ·intro i k j l hi hj; rw [hp i k hi,hp j l hj]; exact g.one i k j l hi hj
 ·intro i k hi; rw [hp i k hi]; exact hm i k hi
 ·intro i h1; rw [hk i h1]; exact hi i h1
 ·intro i k h1; rw [hp i k h1,hk i h1,uZ hb]; exact g.pk i k h1
 ·intro p s h1 h2 h3; rw [hs] at h3 ⊢; rw [ho] at h2; rw [hk _ (hI p s h1 h3)]; exact g.nm p s h1 h2 h3
 ·intro i k s h1 h2 h3 h4 h5; rw [hp i k h1] at h5 ⊢; rw [hs]; rw [hk i h1] at h3; rw [hc] at h4; exact g.ne i k s h1 h2 h3 h4 h5
 ·intro j h1 h2; rw [hk j h1] at h2; rw [hl j h1 h2]; exact g.dl j h1 h2
 ·rw [hk 1 ⟨by omega,by omega⟩]; exact g.rt
 ·intro i k l s t h1 h2 h3 h4; rw [hp i k h1] at h3 ⊢; rw [hp i l h1] at h4 ⊢; rw [hk i h1] at h2; rw [hs,hs]; exact g.un i k l s t h1 h2 h3 h4
 ·obtain ⟨r,r1,r2⟩:=g.rk
  refine ⟨r,r1,fun i k s h1 h2 h3 h4 h5=> ?_⟩
  rw [hp i k h1] at h3 h4 h5 ⊢; rw [hs] at h4 h5 ⊢; rw [hk i h1] at h2; rw [hk _ (hI _ s (hB i k h1 h3) h4)] at h5
  exact r2 i k s h1 h2 h3 h4 h5
end Go.Soft
namespace Go.Soft
open Go
variable {e:Int} {X:List Int} {m:Mem}
theorem pc {l:List bO} {P:bO->Bool} (h:∀ d∈l,d.Kind=4->P d=true) (j:Int):gj (l.filter P) j=gj l j:=by
 simp only [gj,List.countP_filter]
 apply List.countP_congr
 intro d hd
 constructor
 ·intro h1; simp only [zB] at h1 ⊢; exact h1.1
 ·intro h1
  have h2:d.Kind=4:=by simp only [zB,beq_iff_eq] at h1; exact h1.1
  simp only [zB] at h1 ⊢
  exact ⟨h1,h d hd h2⟩
theorem Gd.sub (h:Gd e X m) {P:bO->Bool} (hP:∀ d∈m.ae,d.Kind≠1->d.Kind≠6->P d=true):Gd e X ⟨m.aa,m.an,m.ae.filter P,m.Next⟩:=by
 have hs:=List.filter_sublist (p:=P) (l:=m.ae)
 have hr:=pc (l:=m.ae) (P:=P) fun d hd h4=>hP d hd (by omega) (by omega)
 refine ⟨h.R.less hs,fun d hd=>h.sz d (hs.subset hd),h.g,fun d hd=>h.fr d (hs.subset hd),h.Ed.sublist hs,?_,?_,?_,fun d hd=>h.nd d (hs.subset hd),?_,h.us.sublist hs,?_⟩
 ·intro j; rw [hr]; exact h.lk j
 ·intro j; rw [hr]; exact h.Cp j
 ·rw [hr]; exact h.rt
 ·intro d hd h4
  obtain ⟨a,b⟩:=h.rd d (hs.subset hd) h4
  refine ⟨a,?_⟩
  rcases b with b | b | ⟨f,hf,Cr,FK⟩
  ·exact .inl b
  ·exact .inr (.inl b)
  ·exact .inr (.inr ⟨f,List.mem_filter.2 ⟨hf,hP f hf (by omega) (by omega)⟩,Cr,FK⟩)
 ·intro d hd h4 h0
  obtain ⟨x,hx,a,b,c⟩:=h.af d (hs.subset hd) h4 h0
  exact ⟨x,List.mem_filter.2 ⟨hx,hP x hx (by omega) (by omega)⟩,a,b,c⟩
theorem pF {l:List bO} (hp:l.Pairwise fun a b=>¬ a.Id=b.Id):∀ {a b:bO},a∈l->b∈l->a.Id=b.Id->a=b:=by
 induction l with
 | nil=>intro a b ha; cases ha
 | cons x l ih =>
  rw [List.pairwise_cons] at hp
  intro a b ha hb he
  rcases zI.1 ha with h1 | h1<;>rcases zI.1 hb with h2 | h2
  ·rw [h1,h2]
  ·rw [h1] at he; exact absurd he (hp.1 b h2)
  ·rw [h2] at he; exact absurd he.symm (hp.1 a h1)
  ·exact ih hp.2 h1 h2 he
theorem qs {l:List bO} (hp:l.Pairwise fun a b=>¬ a.Id=b.Id) {d:bO} (hd:d∈l) (P:bO->Bool):(l.filter fun x=> !(x.Id==d.Id)).countP P+(bif P d then 1 else 0)=l.countP P:=by
 induction l with
 | nil=>cases hd
 | cons x l ih =>
  rw [List.pairwise_cons] at hp
  rcases zI.1 hd with rfl | zo
  ·have:l.filter (fun y=> !(y.Id==d.Id))=l:=List.filter_eq_self.2 fun y hy=>by
    have:=hp.1 y hy
    simp; exact fun h=>this h.symm
   simp only [List.filter_cons,beq_self_eq_true,zM,Bool.false_eq_true,if_false,this,List.countP_cons]
   cases P d<;>rfl
  ·have cL:(x.Id==d.Id)=false:=by simpa using hp.1 d zo
   have:=ih hp.2 zo
   simp only [List.filter_cons,cL,zN,if_true,List.countP_cons]
   omega
theorem dF {l:List bO} {x:bO} {id:Int}:x∈l.filter (fun x=> !(x.Id==id))↔x∈l/\x.Id≠id:=by simp [List.mem_filter]
theorem Gd.Rp (h:Gd 0 X m) {d:bO} (hd:d∈m.ae) (h4:d.Kind=4):Gd d.Ino X (bd m d.Id):=by
 have hs:=List.filter_sublist (p:=fun x:bO=> !(x.Id==d.Id)) (l:=m.ae)
 have hI:=dq (h.R.num d hd)
 have hr:∀ j,gj (m.ae.filter fun x=> !(x.Id==d.Id)) j+(if d.Ino=j then 1 else 0)=gj m.ae j:=fun j=>by
  have:=qs h.R.ids hd (fun x=>x.Kind==4&&x.Ino==j)
  refine Eq.trans ?_ this
  show gj _ j+_=gj _ j+_
  congr 1
  by_cases hj:d.Ino=j
  ·simp [h4,hj]
  ·rw [if_neg hj,beq_eq_false_iff_ne.2 hj,Bool.and_false]; rfl
 have hk:aU m.aa d.Ino≠0:=fun h0=>by
  have:=(h.Cp d.Ino hI h0).1
  have h2:=hr d.Ino
  simp at h2; omega
 have h1:d.Ino≠1:=fun h0=>by
  have:=h.rt.1
  have h2:=hr d.Ino
  rw [h0] at h2; simp at h2; omega
 refine ⟨h.R.drop d.Id,fun d hd=>h.sz d (hs.subset hd),h.g,fun d hd=>h.fr d (hs.subset hd),h.Ed.sublist hs,?_,?_,?_,fun d hd=>h.nd d (hs.subset hd),?_,h.us.sublist hs,?_⟩
 ·intro j hj z8 lx
  have e1:=h.lk j hj z8 lx
  have e2:=hr j
  obtain ⟨a,b⟩:=hj
  rw [if_neg (by omega)] at e1
  show gM m.aa j=(kW m.aa j:Int)+(gj (m.ae.filter fun x=> !(x.Id==d.Id)) j:Nat)+_
  rw [e1,← e2]
  split<;>simp<;>omega
 ·intro j hj lx
  have e1:=(h.Cp j hj lx).1
  have e2:=hr j
  refine ⟨?_,fun hh=>hk (hh▸lx)⟩
  show gj (m.ae.filter fun x=> !(x.Id==d.Id)) j=0
  omega
 ·have e1:=h.rt.1
  have e2:=hr 1
  refine ⟨?_,h1⟩
  show gj (m.ae.filter fun x=> !(x.Id==d.Id)) 1=0
  omega
 ·intro x hx hx4
  obtain ⟨a,b⟩:=h.rd x (hs.subset hx) hx4
  refine ⟨a,?_⟩
  rcases b with b | b | ⟨f,hf,Cr,FK⟩
  ·exact .inl b
  ·exact .inr (.inl b)
  ·exact .inr (.inr ⟨f,dF.2 ⟨hf,fun hh=>by have:=pF h.R.ids hf hd hh; subst this; omega⟩,Cr,FK⟩)
 ·intro x hx hx4 h0
  obtain ⟨y,hy,a,b,c⟩:=h.af x (hs.subset hx) hx4 h0
  exact ⟨y,dF.2 ⟨hy,fun hh=>by have:=pF h.R.ids hy hd hh; subst this; omega⟩,a,b,c⟩
structure CM (f:bO->bO):Prop where
 same:∀ d,(f d).Id=d.Id/\(f d).Ino=d.Ino/\(f d).Ptr=d.Ptr/\(f d).Block=d.Block/\(f d).Slot=d.Slot/\(f d).Name=d.Name/\(f d).bC=d.bC/\(f d).ab=d.ab
 kind:∀ d,(f d).Kind=d.Kind\/(d.Kind=1/\(f d).Kind=6)\/(d.Kind=2/\(f d).Kind=3)
theorem CM.Nx {f:bO->bO} (h:CM f) (d:bO):((f d).Kind=4↔d.Kind=4)/\((f d).Kind=5↔d.Kind=5)/\(((f d).Kind=2\/(f d).Kind=3)↔(d.Kind=2\/d.Kind=3))/\(((f d).Kind=1\/(f d).Kind=6)↔(d.Kind=1\/d.Kind=6)):=by
 rcases h.kind d with h | h | h<;>(refine ⟨?_,?_,?_,?_⟩<;>constructor<;>intro<;>omega)
theorem fT {d:bO}:jQ d=true↔d.Kind=2\/d.Kind=3\/d.Kind=4:=by
 simp only [jQ,Bool.or_eq_true,beq_iff_eq,or_assoc]
theorem CM.nm {f:bO->bO} (h:CM f) (d:bO):jQ (f d)=true↔jQ d=true:=by
 rw [fT,fT]
 rcases h.kind d with h | h | h<;>constructor<;>intro<;>omega
theorem fy.So {f:bO->bO} (ht:CM f) (h:fy m):fy ⟨m.aa,m.an,m.ae.map f,m.Next⟩:=by
 refine ⟨h.d,h.dy,by simpa using h.dp,h.n1,h.n2,?_,?_,?_,?_⟩
 ·intro x hx
  obtain ⟨d,hd,rfl⟩:=List.mem_map.1 hx
  have h1:=h.num d hd
  obtain ⟨a1,a2,a3,a4,a5,a6,a7,a8⟩:=ht.same d
  simp only [bF,zB,ak,a1,a2,a3,a4,a5,a7] at h1 ⊢
  have:=ht.kind d
  refine ⟨h1.1,by omega,h1.2.2⟩
 ·intro x hx
  obtain ⟨d,hd,rfl⟩:=List.mem_map.1 hx
  rw [(ht.same d).2.2.2.2.2.2.2]; exact h.bs d hd
 ·intro x hx
  obtain ⟨d,hd,rfl⟩:=List.mem_map.1 hx
  have h1:=h.ym d hd
  obtain ⟨a1,a2,a3,a4,a5,a6,a7,a8⟩:=ht.same d
  obtain ⟨k4,k5,k2,k1⟩:=ht.Nx d
  have e1:(((f d).Kind==1)||((f d).Kind==6))=((d.Kind==1)||(d.Kind==6)):=by rw [Bool.eq_iff_iff]; simpa using k1
  have e2:(((f d).Kind==2)||((f d).Kind==3))=((d.Kind==2)||(d.Kind==3)):=by rw [Bool.eq_iff_iff]; simpa using k2
  have e4:((f d).Kind==4)=(d.Kind==4):=by rw [Bool.eq_iff_iff]; simpa using k4
  simp only [cC,e1,e2,e4,a2,a3,a4,a5,a6] at h1 ⊢
  exact h1
 ·rw [List.pairwise_map]
  exact h.ids.imp fun {a b} tu=>by rw [(ht.same a).1,(ht.same b).1]; exact tu
theorem MA {f:bO->bO} (ht:CM f) (l:List bO) (j:Int):gj (l.map f) j=gj l j:=by
 simp only [gj,List.countP_map]
 apply List.countP_congr
 intro d _
 have:=(ht.Nx d).1
 simp [this,(ht.same d).2.1]
theorem Gd.So {f:bO->bO} (ht:CM f) (h:Gd e X m):Gd e X ⟨m.aa,m.an,m.ae.map f,m.Next⟩:=by
 have hr:=MA ht m.ae
 refine ⟨h.R.So ht,?_,h.g,?_,?_,?_,?_,?_,?_,?_,?_,?_⟩
 ·intro x hx
  obtain ⟨d,hd,rfl⟩:=List.mem_map.1 hx
  obtain ⟨a1,a2,a3,a4,a5,a6,a7,a8⟩:=ht.same d
  simp only [ru,a6,a8]; exact h.sz d hd
 ·intro x hx h5
  obtain ⟨d,hd,rfl⟩:=List.mem_map.1 hx
  obtain ⟨a1,a2,a3,a4,a5,a6,a7,a8⟩:=ht.same d
  rw [a2,a8]; exact h.fr d hd ((ht.Nx d).2.1.1 h5)
 ·rw [List.pairwise_map]
  exact h.Ed.imp fun {a b} tu ha hb=>by
   rw [(ht.same a).2.1,(ht.same b).2.1,(ht.same a).2.2.2.2.2.2.2,(ht.same b).2.2.2.2.2.2.2]
   exact tu ((ht.Nx a).2.1.1 ha) ((ht.Nx b).2.1.1 hb)
 ·intro j; rw [hr]; exact h.lk j
 ·intro j; rw [hr]; exact h.Cp j
 ·rw [hr]; exact h.rt
 ·intro x hx h2
  obtain ⟨d,hd,rfl⟩:=List.mem_map.1 hx
  rw [(ht.same d).2.2.2.1]; exact h.nd d hd ((ht.Nx d).2.2.1.1 h2)
 ·intro x hx h4
  obtain ⟨d,hd,rfl⟩:=List.mem_map.1 hx
  rw [(ht.same d).2.2.2.1,(ht.same d).2.2.2.2.1]
  obtain ⟨a,b⟩:=h.rd d hd ((ht.Nx d).1.1 h4)
  refine ⟨a,?_⟩
  rcases b with b | b | ⟨f',hf,Cr,FK⟩
  ·exact .inl b
  ·exact .inr (.inl b)
  ·exact .inr (.inr ⟨f f',List.mem_map_of_mem hf,(ht.Nx f').2.1.2 Cr,by rw [(ht.same f').2.2.2.2.2.2.2]; exact FK⟩)
 ·rw [List.pairwise_map]
  exact h.us.imp fun {a b} tu ha hb=>by
   rw [(ht.same a).2.2.2.1,(ht.same b).2.2.2.1,(ht.same a).2.2.2.2.1,(ht.same b).2.2.2.2.1]
   exact tu ((ht.nm a).1 ha) ((ht.nm b).1 hb)
 ·intro x hx h4 h0
  obtain ⟨d,hd,rfl⟩:=List.mem_map.1 hx
  rw [(ht.same d).2.2.2.2.2.2.1] at h0 ⊢
  rw [(ht.same d).2.1]
  obtain ⟨y,hy,a,b,c⟩:=h.af d hd ((ht.Nx d).1.1 h4) h0
  exact ⟨f y,List.mem_map_of_mem hy,by rw [(ht.same y).1]; exact a,(ht.Nx y).2.2.1.2 b,by rw [(ht.same y).2.1]; exact c⟩
end Go.Soft
namespace Go.Soft
open Go
variable {e:Int} {X:List Int} {m:Mem} {d:aa}
theorem dB (h:d.ad.length=8) {i j:Int} (hi:I8 i) (hj:I8 j) (x:aR):aU (aP d i x) j=if j=i then x.Kind else aU d j:=by
 simp only [aU,nE h hi hj]; split<;>rfl
theorem gu (h:d.ad.length=8) {i j:Int} (hi:I8 i) (hj:I8 j) (x:aR):gM (aP d i x) j=if j=i then x.Links else gM d j:=by
 simp only [gM,nE h hi hj]; split<;>rfl
theorem eN (h:d.ad.length=8) {i j:Int} (hi:I8 i) (hj:I8 j) (x:aR) (k:Nat):aX (aP d i x) j k=if j=i then x.ax.getD k 0 else aX d j k:=by
 simp only [aX,nE h hi hj]; split<;>rfl
theorem cE.gX (T:cE d) {i:Int} {k:Nat} (hi:I8 i) (h:aX d i k≠0):lz (aX d i k):=((T.ptr hi k).resolve_right h).2
theorem cE.CO (T:cE d) {p:Int} {s:Nat} (hp:lz p) (h:(cA d p s).Ino≠0):I8 (cA d p s).Ino:=by
 rcases T.vQ hp s with h1 | h1
 ·rw [h1] at h; exact absurd rfl h
 ·exact h1.2.2.2
theorem cE.Te (T:cE d) {p:Int} (hp:lz p) {x:Slot} (hx:x∈(aH d p).ah):∃ s,s<=3/\cA d p s=x:=by
 obtain ⟨s,hs,rfl⟩:=List.mem_iff_getElem.1 hx
 have h1:=T.nz hp.1 hp.2
 refine ⟨s,?_,fc _ _ hs⟩
 cases hd:(aH d p).bZ with
 | false=>simp only [fY,hd,zF,zB,beq_iff_eq] at h1; omega
 | true=>have:=dh h1 hd; omega
theorem cE.FV (T:cE d) {j:Int} (hj:j≠0):kW d j=0↔∀ p s,lz p->m9 d p->(cA d p s).Ino≠j:=by
 rw [Pq]
 constructor
 ·intro h p s hp ho he
  rcases T.vQ hp s with h1 | h1
  ·rw [h1] at he; exact hj he.symm
  ·refine h p hp ((jz T.di (by obtain ⟨a,b⟩:=hp; omega)).2 ho) _ ?_ he
   refine aV _ ?_
   have:=dh (T.nz hp.1 hp.2) h1.2.1
   omega
 ·intro h p hp ho x hx
  obtain ⟨s,_,rfl⟩:=T.Te hp hx
  exact h p s hp ((jz T.di (by obtain ⟨a,b⟩:=hp; omega)).1 ho)
theorem BD (T:cE d) {i:Int} (hi:I8 i) (p:Int):(m9 (aP d i (aY 0)) p->m9 d p)/\(m9 d p->m9 (aP d i (aY 0)) p\/∃ k,aU d i=2/\aX d i k=p):=by
 constructor
 ·rintro ⟨j,k,hj,h1,h2⟩
  rw [dB T.di hi hj] at h1; rw [eN T.di hi hj] at h2
  by_cases h:j=i
  ·rw [if_pos h] at h1; exact absurd h1 (by decide)
  ·rw [if_neg h] at h1 h2; exact ⟨j,k,hj,h1,h2⟩
 ·rintro ⟨j,k,hj,h1,h2⟩
  by_cases h:j=i
  ·subst h; exact .inr ⟨k,h1,h2⟩
  ·refine .inl ⟨j,k,hj,?_,?_⟩
   ·rw [dB T.di hi hj,if_neg h]; exact h1
   ·rw [eN T.di hi hj,if_neg h]; exact h2
theorem GI (T:cE d) {i j:Int} (hi:I8 i) (hj:I8 j) (k:Nat):aX (aP d i (aY 0)) j k=if j=i then 0 else aX d j k:=by
 rw [eN T.di hi hj]
 split
 ·match k with
  | 0=>rfl
  | 1=>rfl
  | k+2=>rfl
 ·rfl
theorem GM (T:cE d) {i:Int} (hi:I8 i) (he:∀ k s,aU d i=2->aX d i k≠0->(cA d (aX d i k) s).Ino=0) {j:Int} (hj:j≠0):kW (aP d i (aY 0)) j=kW d j:=by
 refine nN fun p hp=> ?_
 have lG:p≠0:=by obtain ⟨a,b⟩:=hp; omega
 obtain ⟨h1,h2⟩:=BD T hi p
 have hl:(aP d i (aY 0)).ad.length=8:=List.length_set.trans T.di
 simp only [jW]
 rw [show aH (aP d i (aY 0)) p=aH d p from rfl]
 cases hb:qJ d p with
 | false =>
  have:qJ (aP d i (aY 0)) p=false:=by
   rw [← Bool.not_eq_true,jz hl lG]; intro h; have:=(jz T.di lG).2 (h1 h); rw [hb] at this; cases this
  rw [this]
 | true =>
  rcases h2 ((jz T.di lG).1 hb) with h | ⟨k,hk,rfl⟩
  ·rw [(jz hl lG).2 h]
  ·cases qJ (aP d i (aY 0)) (aX d i k) with
   | true=>rfl
   | false =>
    simp only [zE,zF]
    refine (qq.2 fun x hx=> ?_).symm
    obtain ⟨s,_,rfl⟩:=T.Te hp hx
    rw [he k s hk lG]; exact hj.symm
theorem DG.dead (T:cE d) (g:DG d) {i:Int} (hi:I8 i) (h1:i≠1) (hc:kW d i=0):DG (aP d i (aY 0)):=by
 have JD:i≠0:=by obtain ⟨a,b⟩:=hi; omega
 have he:∀ k s,aU d i=2->aX d i k≠0->(cA d (aX d i k) s).Ino=0:=fun k s hk=>g.ne i k s hi h1 hk hc
 have C1:=fun {j}=>GM T hi he (j:=j)
 have hk:=fun {j} (hj:I8 j)=>dB T.di hi hj (aY 0)
 have hl:=fun {j} (hj:I8 j)=>gu T.di hi hj (aY 0)
 have hp:=fun {j} (hj:I8 j)=>GI T hi hj
 have ho:=BD T hi
 have hs:∀ p s,cA (aP d i (aY 0)) p s=cA d p s:=fun _ _=>rfl
 have c0:=(T.FV JD).1 hc
 refine ⟨?_,?_,?_,?_,?_,?_,?_,?_,?_,?_⟩
 ·intro a k b l ha hb; rw [hp ha,hp hb]
  split
  ·intro _ h; exact absurd rfl h
  ·split
   ·intro h h'; exact absurd h h'
   ·exact g.one a k b l ha hb
 ·intro a k ha; rw [hp ha]; split
  ·intro h; exact absurd rfl h
  ·exact g.bm a k ha
 ·intro a ha; rw [hk ha]; split
  ·intro h; exact absurd rfl h
  ·exact g.Nb a ha
 ·intro a k ha; rw [hp ha,hk ha]; split
  ·intro h; exact absurd rfl h
  ·exact g.pk a k ha
 ·intro p s hB hO h; rw [hs] at h ⊢
  have h2:=(ho p).1 hO
  rw [hk (T.CO hB h),if_neg (c0 p s hB h2)]
  exact g.nm p s hB h2 h
 ·intro a k s ha Ve pC QQ; rw [hk ha] at pC; rw [hp ha]
  by_cases h:a=i
  ·rw [if_pos h] at pC; exact absurd pC (by decide)
  ·rw [if_neg h] at pC ⊢; rw [C1 (by obtain ⟨x,y⟩:=ha; omega)] at QQ
   exact g.ne a k s ha Ve pC QQ
 ·intro j hj lx; rw [hk hj] at lx; rw [hl hj]
  by_cases h:j=i
  ·rw [if_pos h] at lx; exact absurd lx (by decide)
  ·rw [if_neg h] at lx ⊢; exact g.dl j hj lx
 ·rw [hk ⟨by decide,by decide⟩,if_neg (Ne.symm h1)]; exact g.rt
 ·intro a k l s t ha pC; rw [hk ha] at pC; rw [hp ha,hp ha]
  by_cases h:a=i
  ·rw [if_pos h] at pC; exact absurd pC (by decide)
  ·rw [if_neg h] at pC; rw [if_neg h,if_neg h]; exact g.un a k l s t ha pC
 ·obtain ⟨r,r1,r2⟩:=g.rk
  refine ⟨r,r1,fun a k s ha pC=> ?_⟩
  rw [hk ha] at pC; rw [hp ha]
  by_cases h:a=i
  ·rw [if_pos h] at pC; exact absurd pC (by decide)
  ·rw [if_neg h] at pC; rw [if_neg h]
   intro h0 h3 h4
   rw [hs] at h3 h4 ⊢
   rw [hk (T.CO (T.gX ha h0) h3),if_neg (c0 _ s (T.gX ha h0) ⟨a,k,ha,pC,rfl⟩)] at h4
   exact r2 a k s ha pC h0 h3 h4
theorem cV:fv m=true↔m.ae.length<40/\1<=m.Next/\m.Next<=99999:=by
 simp only [fv,zB,zD,ak]
theorem kB (h:fv m=true) (x:bO):dz m x=(⟨m.aa,m.an,m.ae++[{ x with Id:=m.Next }],m.Next+1⟩,m.Next):=by
 simp only [dz,h,zE]
theorem IF (hp:fv m=true) {i:Int} (hk:aU m.aa i≠0) (hl:0<gM m.aa i) :
  iC i m=if 1<gM m.aa i then ⟨aP m.aa i ⟨aU m.aa i,gM m.aa i-1,(ai m.aa i).ax⟩,bP (aK i) m.an,m.ae,m.Next⟩ else
   ⟨aP m.aa i (aY 0),bP (aK i) m.an,m.ae.filter (stays i)++[⟨m.Next,5,i,0,0,0,eS,false,false,0,(ai m.aa i).ax.filter fun p=>decide (0<p)⟩],m.Next+1⟩:=by
 obtain ⟨a1,a2,a3⟩:=cV.1 hp
 have hf:gB (ai m.aa i)=⟨aU m.aa i,gM m.aa i-1,(ai m.aa i).ax⟩:=by
  simp only [gB]; rw [decide_eq_true (show 0<(ai m.aa i).Links from hl)]; rfl
 have h1:(decide (40<=(m.ae.length:Int))|| !within m.Next 1 99999)=false:=by
  rw [ak.2 ⟨a2,a3⟩,decide_eq_false (by omega)]; rfl
 simp only [iC,h1,zF,hf]
 have h2:(aU m.aa i==0)=false:=by simpa using hk
 rw [h2,Bool.or_false]
 by_cases h:1<gM m.aa i
 ·rw [if_pos h,decide_eq_true (by omega)]; rfl
 ·rw [if_neg h,decide_eq_false (by omega)]
  simp only [zF]
  rw [kB]
  rw [cV]
  exact ⟨Nat.lt_of_le_of_lt (List.length_filter_le _ _) a1,a2,a3⟩
theorem Gd.iC {i:Int} (h:Gd i X m) (hi:I8 i) (hp:fv m=true):Gd 0 X (Soft.iC i m):=by
 have T:=h.R.d.t
 have zr:i≠1:=h.rt.2
 have hk:aU m.aa i≠0:=fun h0=>(h.Cp i hi h0).2 rfl
 have hl:=h.lk i hi zr hk
 rw [if_pos rfl] at hl
 have hR:=h.R.iC hi.1 hi.2
 have K3:=IF hp hk (by omega)
 have JD:¬ (0:Int)=i:=by obtain ⟨a,b⟩:=hi; omega
 by_cases hL:1<gM m.aa i
 ·rw [if_pos hL] at K3
  rw [K3] at hR ⊢
  have iV:∀ j,I8 j->aU (aP m.aa i ⟨aU m.aa i,gM m.aa i-1,(ai m.aa i).ax⟩) j=aU m.aa j:=fun j hj=>by
   rw [dB T.di hi hj]; split
   ·next hh=>rw [hh]
   ·rfl
  have ng:∀ j k,I8 j->aX (aP m.aa i ⟨aU m.aa i,gM m.aa i-1,(ai m.aa i).ax⟩) j k=aX m.aa j k:=fun j k hj=>by
   rw [eN T.di hi hj]; split
   ·next hh=>rw [hh]; rfl
   ·rfl
  have h8:(aP m.aa i ⟨aU m.aa i,gM m.aa i-1,(ai m.aa i).ax⟩).ad.length=8:=List.length_set.trans T.di
  have hO:=n6 iV ng
  have hc:=oi T.di h8 iV ng rfl
  refine ⟨hR,h.sz,DG.same T h.g h8 rfl iV ng ?_ (fun a k ha h0=>h.g.bm a k ha h0) (fun a ha h0=>h.g.Nb a ha h0),?_,h.Ed,?_,?_,⟨h.rt.1,by decide⟩,?_,?_,h.us,h.af⟩
  ·intro j hj h2
   rw [gu T.di hi hj]
   split
   ·next hh=>subst hh; have:=h.g.dl j hj h2; omega
   ·rfl
  ·intro x hx h5
   obtain ⟨a1,a2,a3,a4⟩:=h.fr x hx h5
   refine ⟨(iV _ (dq (h.R.num x hx))).trans a1,a2,a3,fun p hp=>⟨(a4 p hp).1,fun j k hj=>by rw [ng j k hj]; exact (a4 p hp).2 j k hj⟩⟩
  ·intro j hj z8 lx
   rw [iV j hj] at lx
   rw [hc,gu T.di hi hj,if_neg (show ¬ (0:Int)=j by obtain ⟨a,b⟩:=hj; omega)]
   have:=h.lk j hj z8 lx
   by_cases hh:j=i
   ·rw [if_pos hh]; rw [if_pos hh.symm] at this; subst hh
    show gM m.aa j-1=(kW m.aa j:Int)+(gj m.ae j:Nat)+0
    omega
   ·rw [if_neg hh]; rw [if_neg (fun q=>hh q.symm)] at this; exact this
  ·intro j hj lx
   rw [iV j hj] at lx
   exact ⟨(h.Cp j hj lx).1,by obtain ⟨a,b⟩:=hj; omega⟩
  ·intro x hx h2; rw [hO]; exact h.nd x hx h2
  ·intro x hx h4
   obtain ⟨a,b⟩:=h.rd x hx h4
   exact ⟨a,b.imp_left (hO _).2⟩
 ·rw [if_neg hL] at K3
  rw [K3] at hR ⊢
  have hc:kW m.aa i=0:=by omega
  have hr:gj m.ae i=0:=by omega
  have ac9:i≠0:=fun hh=>JD hh.symm
  have c0:=(T.FV ac9).1 hc
  have he:∀ k s,aU m.aa i=2->aX m.aa i k≠0->(cA m.aa (aX m.aa i k) s).Ino=0:=fun k s hk=>h.g.ne i k s hi zr hk hc
  have iV:=fun {j} (hj:I8 j)=>dB T.di hi hj (aY 0)
  have VK:=fun {j} (hj:I8 j)=>gu T.di hi hj (aY 0)
  have ng:=fun {j} (hj:I8 j)=>GI T hi hj
  have hO:=BD T hi
  have C1:=fun {j}=>GM T hi he (j:=j)
  have hs:=List.filter_sublist (p:=stays i) (l:=m.ae)
  have pO:∀ x:bO,x.Kind≠1->x.Kind≠6->stays i x=true:=fun x h1 h6=>by
   simp only [stays]; rw [beq_eq_false_iff_ne.2 h1,beq_eq_false_iff_ne.2 h6]; rfl
  have vM:∀ j,gj (m.ae.filter (stays i)++[⟨m.Next,5,i,0,0,0,eS,false,false,0,(ai m.aa i).ax.filter fun p=>decide (0<p)⟩]) j=gj m.ae j:=fun j=>by
   have:=pc (l:=m.ae) (P:=stays i) (fun x hx h4=>pO x (by omega) (by omega)) j
   rw [← this]
   simp [gj,List.countP_append]
  have KN:(ai m.aa i).ax.length=2:=T.rK hi.1 hi.2
  have hpm:∀ p,p∈(ai m.aa i).ax.filter (fun p=>decide (0<p))↔p≠0/\∃ k,aX m.aa i k=p:=fun p=>by
   rw [List.mem_filter,zD]
   constructor
   ·rintro ⟨a,b⟩; exact ⟨by omega,(mB (by omega)).1 a⟩
   ·rintro ⟨a,k,hk⟩
    refine ⟨(mB a).2 ⟨k,hk⟩,?_⟩
    rw [← hk] at a ⊢
    have:=T.gX hi a
    obtain ⟨b,c⟩:=this; omega
  have eE:∀ {x},x∈m.ae.filter (stays i)++[⟨m.Next,5,i,0,0,0,eS,false,false,0,(ai m.aa i).ax.filter fun p=>decide (0<p)⟩]->x∈m.ae\/x=⟨m.Next,5,i,0,0,0,eS,false,false,0,(ai m.aa i).ax.filter fun p=>decide (0<p)⟩:=fun {x} hx=>by
   rcases zH.1 hx with hx | hx
   ·exact .inl (hs.subset hx)
   ·exact .inr (zS.1 hx)
  have T4:∀ {x},x∈m.ae->x.Kind≠1->x.Kind≠6->x∈m.ae.filter (stays i)++[⟨m.Next,5,i,0,0,0,eS,false,false,0,(ai m.aa i).ax.filter fun p=>decide (0<p)⟩]:=fun {x} hx h1 h6 =>
   List.mem_append_left _ (List.mem_filter.2 ⟨hx,pO x h1 h6⟩)
  refine ⟨hR,?_,h.g.dead T hi zr hc,?_,?_,?_,?_,?_,?_,?_,?_,?_⟩
  ·intro x hx
   rcases eE hx with hx | rfl
   ·exact h.sz x hx
   ·exact ⟨by show eS.size<=cO; decide,by show List.length _<=cO; exact Nat.le_trans (List.length_filter_le _ _) (by rw [KN]; decide)⟩
  ·intro x hx h5
   rcases eE hx with hx | rfl
   ·obtain ⟨a1,a2,a3,a4⟩:=h.fr x hx h5
    refine ⟨?_,a2,a3,fun p hp=>⟨(a4 p hp).1,fun j k hj=> ?_⟩⟩
    ·show aU (aP m.aa i (aY 0)) x.Ino=0
     rw [iV (dq (h.R.num x hx))]; split
     ·rfl
     ·exact a1
    ·show aX (aP m.aa i (aY 0)) j k≠p
     rw [ng hj]; split
     ·intro hh
      have:=ak.1 (List.all_eq_true.1 (h.R.bs x hx) p hp)
      omega
     ·exact (a4 p hp).2 j k hj
   ·refine ⟨?_,h.g.Nb i hi hk,?_,fun p hp=> ?_⟩
    ·show aU (aP m.aa i (aY 0)) i=0
     rw [iV hi,if_pos rfl]; rfl
    ·show ((ai m.aa i).ax.filter fun p=>decide (0<p)).Nodup
     have h1:=h.g.one i 0 i 1 hi hi
     simp only [aX] at h1
     match hP:(ai m.aa i).ax,KN with
     | [a,b],_ =>
      rw [hP] at h1
      simp only [List.getD_cons_zero,List.getD_cons_succ] at h1
      simp only [List.filter_cons,List.filter_nil]
      by_cases ha:0<a<;>by_cases hb:0<b<;>simp [ha,hb]
      intro tu
      have:=(h1 tu (by omega)).2
      omega
    ·obtain ⟨h0,k,uy⟩:=(hpm p).1 hp
     refine ⟨?_,fun j l hj=> ?_⟩
     ·have:=h.g.bm i k hi (by rw [uy]; exact h0)
      rw [uy] at this; exact this
     ·show aX (aP m.aa i (aY 0)) j l≠p
      rw [ng hj]; split
      ·exact fun hh=>h0 hh.symm
      ·next Y3=>intro hh; exact Y3 (h.g.one j l i k hj hi (hh.trans uy.symm) (by rw [hh]; exact h0)).1
  ·rw [List.pairwise_append]
   refine ⟨h.Ed.sublist hs,List.pairwise_singleton _ _,?_⟩
   intro a ha b hb h5 _
   rw [zS] at hb; subst hb
   obtain ⟨a1,a2,a3,a4⟩:=h.fr a (hs.subset ha) h5
   refine ⟨fun hh=>hk (by rw [← show a.Ino=i from hh]; exact a1),fun p hp hq=> ?_⟩
   obtain ⟨h0,k,uy⟩:=(hpm p).1 hq
   exact (a4 p hp).2 i k hi uy
  ·intro j hj z8 lx
   rw [iV hj] at lx
   by_cases hh:j=i
   ·rw [if_pos hh] at lx; exact absurd rfl lx
   ·rw [if_neg hh] at lx
    rw [vM,C1 (by obtain ⟨a,b⟩:=hj; omega),VK hj,if_neg hh,if_neg (show ¬ (0:Int)=j by obtain ⟨a,b⟩:=hj; omega)]
    have:=h.lk j hj z8 lx
    rw [if_neg (fun q=>hh q.symm)] at this; exact this
  ·intro j hj lx
   rw [vM]
   refine ⟨?_,by obtain ⟨a,b⟩:=hj; omega⟩
   rw [iV hj] at lx
   by_cases hh:j=i
   ·rw [hh]; exact hr
   ·rw [if_neg hh] at lx; exact (h.Cp j hj lx).1
  ·rw [vM]; exact ⟨h.rt.1,by decide⟩
  ·intro x hx h2
   rcases eE hx with hx | rfl
   ·rcases (hO x.Block).2 (h.nd x hx h2) with h3 | ⟨k,h3,h4⟩
    ·exact h3
    ·have Fq:=h.R.ym x hx
     have e2:((x.Kind==2)||(x.Kind==3))=true:=by simpa using h2
     have e1:((x.Kind==1)||(x.Kind==6))=false:=by rw [Bool.or_eq_false_iff]; constructor<;>(rw [beq_eq_false_iff_ne]; omega)
     simp only [cC,e1,e2,zE,zF,zB,zD,beq_iff_eq] at Fq
     have:=he k x.Slot.toNat h3 (by rw [h4]; omega)
     rw [h4] at this
     have h5:(cA m.aa x.Block x.Slot.toNat).Ino=x.Ino:=Fq.2
     have:=dq (h.R.num x hx)
     omega
   ·exact absurd h2 (by show ¬ ((5:Int)=2\/(5:Int)=3); omega)
  ·intro x hx h4
   rcases eE hx with hx | rfl
   ·obtain ⟨a,b⟩:=h.rd x hx h4
    refine ⟨a,?_⟩
    rcases b with b | b | ⟨f,hf,Cr,FK⟩
    ·rcases (hO x.Block).2 b with h3 | ⟨k,h3,h5⟩
     ·exact .inl h3
     ·refine .inr (.inr ⟨_,List.mem_append_right _ (zS.2 rfl),rfl,(hpm _).2 ⟨?_,k,h5⟩⟩)
      have Fq:=h.R.ym x hx
      simp only [cC,h4] at Fq
      simp at Fq; omega
    ·exact .inr (.inl b)
    ·exact .inr (.inr ⟨f,T4 hf (by omega) (by omega),Cr,FK⟩)
   ·exact absurd h4 (by show ¬ (5:Int)=4; decide)
  ·rw [List.pairwise_append]
   refine ⟨h.us.sublist hs,List.pairwise_singleton _ _,?_⟩
   intro a ha b hb _ hn
   rw [zS] at hb; subst hb
   exact absurd hn (by show ¬ jQ ⟨m.Next,5,i,0,0,0,eS,false,false,0,_⟩=true; rw [fT]; simp)
  ·intro x hx h4 h0
   rcases eE hx with hx | rfl
   ·obtain ⟨y,hy,a,b,c⟩:=h.af x hx h4 h0
    exact ⟨y,T4 hy (by omega) (by omega),a,b,c⟩
   ·exact absurd h4 (by show ¬ (5:Int)=4; decide)
theorem bh (id b:Int) (d:bO):(eQ id b d).Id=d.Id/\(eQ id b d).Kind=d.Kind/\(eQ id b d).Ino=d.Ino/\(eQ id b d).Ptr=d.Ptr/\(eQ id b d).Block=d.Block/\(eQ id b d).Slot=d.Slot/\(eQ id b d).Name=d.Name/\(eQ id b d).ab=d.ab:=by
 simp only [eQ]; cases (d.Kind==4)&&(d.bC==id)<;>simp
theorem Hs (id b:Int) {d:bO} (h4:d.Kind=4):(eQ id b d).bC=if d.bC=id then b else d.bC:=by
 simp only [eQ,h4]
 by_cases h:d.bC=id
 ·simp [h]
 ·rw [if_neg h,beq_eq_false_iff_ne.2 h]; rfl
theorem eX {id b:Int} {x:bO}:x∈(shown id b m).ae↔∃ y∈m.ae,y.Id≠id/\eQ id b y=x:=by
 simp only [shown,List.mem_map]
 constructor
 ·rintro ⟨y,hy,rfl⟩; exact ⟨y,(dF.1 hy).1,(dF.1 hy).2,rfl⟩
 ·rintro ⟨y,hy,h,rfl⟩; exact ⟨y,dF.2 ⟨hy,h⟩,rfl⟩
theorem IK {id b:Int} (oQ:∀ y∈m.ae,y.Id=id->y.Kind≠4) (j:Int):gj (shown id b m).ae j=gj m.ae j:=by
 have:gj (shown id b m).ae j=gj (bd m id).ae j:=by
  simp only [shown,gj,List.countP_map]
  apply List.countP_congr
  intro y _
  obtain ⟨_,a2,a3,_⟩:=bh id b y
  simp [a2,a3]
 rw [this]
 exact pc (fun y hy h4=>by simpa using fun hh=>oQ y hy hh h4) j
theorem fy.UM (h:fy m) {id b:Int} (b0:0<=b) (b1:b<=m.Next-1):fy (shown id b m):=by
 refine ⟨h.d,(yq _ _ _ _).trans h.dy,?_,h.n1,h.n2,?_,?_,?_,?_⟩
 ·simp only [shown,List.length_map]; exact Nat.le_trans (List.length_filter_le _ _) h.dp
 ·intro x hx
  obtain ⟨y,hy,_,rfl⟩:=eX.1 hx
  have h1:=h.num y hy
  obtain ⟨a1,a2,a3,a4,a5,a6,a7,a8⟩:=bh id b y
  simp only [bF,zB,ak,a1,a2,a3,a4,a5,a6] at h1 ⊢
  refine ⟨h1.1,h1.2.1,h1.2.2.1,h1.2.2.2.1,h1.2.2.2.2.1,h1.2.2.2.2.2.1,?_⟩
  show 0<=(eQ id b y).bC/\(eQ id b y).bC<=m.Next-1
  have:=h1.2.2.2.2.2.2
  simp only [eQ]
  cases (y.Kind==4)&&(y.bC==id)
  ·exact this
  ·exact ⟨b0,b1⟩
 ·intro x hx
  obtain ⟨y,hy,_,rfl⟩:=eX.1 hx
  rw [(bh id b y).2.2.2.2.2.2.2]; exact h.bs y hy
 ·intro x hx
  obtain ⟨y,hy,_,rfl⟩:=eX.1 hx
  obtain ⟨a1,a2,a3,a4,a5,a6,a7,a8⟩:=bh id b y
  have h1:=h.ym y hy
  simp only [cC,a2,a3,a4,a5,a6,a7] at h1 ⊢; exact h1
 ·simp only [shown,List.pairwise_map]
  exact (h.ids.sublist List.filter_sublist).imp fun {a b'} tu=>by rw [(bh _ _ a).1,(bh _ _ b').1]; exact tu
theorem Gd.shown (h:Gd e X m) {x0:bO} (Uc:x0∈m.ae) (QE:x0.Kind=2\/x0.Kind=3) {b:Int} (hb:b=0\/∃ x∈m.ae,x.Id=b/\(x.Kind=2\/x.Kind=3)/\x.Ino=x0.Ino/\b≠x0.Id):Gd e X (Soft.shown x0.Id b m):=by
 have oQ:∀ {y},y∈m.ae->y.Id=x0.Id->y=x0:=fun hy he=>pF h.R.ids hy Uc he
 have Wo:0<=b/\b<=m.Next-1:=by
  rcases hb with rfl | ⟨x,hx,rfl,_⟩
  ·exact ⟨by decide,by have:=h.R.n1; omega⟩
  ·have:=h.R.num x hx
   simp only [bF,zB,ak] at this
   exact ⟨by omega,this.1.2⟩
 have hr:=IK (m:=m) (id:=x0.Id) (b:=b) fun y hy he=>by rw [oQ hy he]; omega
 have hs:=List.filter_sublist (p:=fun x:bO=> !(x.Id==x0.Id)) (l:=m.ae)
 refine ⟨h.R.UM Wo.1 Wo.2,?_,h.g,?_,?_,?_,?_,?_,?_,?_,?_,?_⟩
 ·intro x hx
  obtain ⟨y,hy,_,rfl⟩:=eX.1 hx
  obtain ⟨a1,a2,a3,a4,a5,a6,a7,a8⟩:=bh x0.Id b y
  simp only [ru,a7,a8]; exact h.sz y hy
 ·intro x hx h5
  obtain ⟨y,hy,_,rfl⟩:=eX.1 hx
  obtain ⟨a1,a2,a3,a4,a5,a6,a7,a8⟩:=bh x0.Id b y
  rw [a3,a8]; rw [a2] at h5; exact h.fr y hy h5
 ·simp only [Soft.shown,List.pairwise_map]
  exact (h.Ed.sublist hs).imp fun {a c} tu ha hc=>by
   rw [(bh _ _ a).2.1] at ha; rw [(bh _ _ c).2.1] at hc
   rw [(bh _ _ a).2.2.1,(bh _ _ c).2.2.1,(bh _ _ a).2.2.2.2.2.2.2,(bh _ _ c).2.2.2.2.2.2.2]
   exact tu ha hc
 ·intro j; rw [hr]; exact h.lk j
 ·intro j; rw [hr]; exact h.Cp j
 ·rw [hr]; exact h.rt
 ·intro x hx h2
  obtain ⟨y,hy,_,rfl⟩:=eX.1 hx
  obtain ⟨a1,a2,a3,a4,a5,a6,a7,a8⟩:=bh x0.Id b y
  rw [a5]; rw [a2] at h2; exact h.nd y hy h2
 ·intro x hx h4
  obtain ⟨y,hy,_,rfl⟩:=eX.1 hx
  obtain ⟨a1,a2,a3,a4,a5,a6,a7,a8⟩:=bh x0.Id b y
  rw [a2] at h4; rw [a5,a6]
  obtain ⟨a,c⟩:=h.rd y hy h4
  refine ⟨a,?_⟩
  rcases c with c | c | ⟨f,hf,Cr,FK⟩
  ·exact .inl c
  ·exact .inr (.inl c)
  ·refine .inr (.inr ⟨eQ x0.Id b f,eX.2 ⟨f,hf,fun hh=>by rw [oQ hf hh] at Cr; rcases QE with h | h<;>rw [h] at Cr<;>exact absurd Cr (by decide),rfl⟩,?_,?_⟩)
   ·rw [(bh _ _ f).2.1]; exact Cr
   ·rw [(bh _ _ f).2.2.2.2.2.2.2]; exact FK
 ·simp only [Soft.shown,List.pairwise_map]
  exact (h.us.sublist hs).imp fun {a c} tu ha hc=>by
   have n1:jQ (eQ x0.Id b a)=jQ a:=by simp only [jQ,(bh _ _ a).2.1]
   have n2:jQ (eQ x0.Id b c)=jQ c:=by simp only [jQ,(bh _ _ c).2.1]
   rw [n1] at ha; rw [n2] at hc
   rw [(bh _ _ a).2.2.2.2.1,(bh _ _ c).2.2.2.2.1,(bh _ _ a).2.2.2.2.2.1,(bh _ _ c).2.2.2.2.2.1]
   exact tu ha hc
 ·intro x hx h4 h0
  obtain ⟨y,hy,_,rfl⟩:=eX.1 hx
  obtain ⟨a1,a2,a3,a4,a5,a6,a7,a8⟩:=bh x0.Id b y
  rw [a2] at h4
  rw [Hs _ _ h4] at h0 ⊢
  rw [a3]
  by_cases hh:y.bC=x0.Id
  ·rw [if_pos hh] at h0 ⊢
   rcases hb with rfl | ⟨w,hw,VC,hxk,Wz,cL⟩
   ·exact absurd rfl h0
   ·obtain ⟨z,hz,z1,z2,z3⟩:=h.af y hy h4 (by
     rw [hh]
     have:=h.R.num x0 Uc
     simp only [bF,zB,ak] at this
     omega)
    have:z=x0:=oQ hz (z1.trans hh)
    subst this
    refine ⟨eQ z.Id b w,eX.2 ⟨w,hw,by rw [VC]; exact cL,rfl⟩,?_,?_,?_⟩
    ·rw [(bh _ _ w).1]; exact VC
    ·rw [(bh _ _ w).2.1]; exact hxk
    ·rw [(bh _ _ w).2.2.1,Wz]; exact z3
  ·rw [if_neg hh] at h0 ⊢
   obtain ⟨z,hz,z1,z2,z3⟩:=h.af y hy h4 h0
   refine ⟨eQ x0.Id b z,eX.2 ⟨z,hz,fun hq=>hh (z1.symm.trans hq),rfl⟩,?_,?_,?_⟩
   ·rw [(bh _ _ z).1]; exact z1
   ·rw [(bh _ _ z).2.1]; exact z2
   ·rw [(bh _ _ z).2.2.1]; exact z3
theorem Gd.T' (h:Gd e X m):cE m.aa:=h.R.d.t
theorem Gd.UH (h:Gd e X m) (hp:fv m=true) (he:e≠0) (hI:I8 e) {p s:Int} {nm:ByteArray} {b:Int} (p1:lz p) (ho:m9 m.aa p) (hd:(aH m.aa p).bZ=true) (s0:0<=s) (s1:s<=3) (hs:cA m.aa p s.toNat=aq) (hn:bH nm=true)
  (hf:∀ x∈m.ae,jQ x=true->x.Block=p->x.Slot≠s) (hb:b=0\/∃ x∈m.ae,x.Id=b/\(x.Kind=2\/x.Kind=3)/\x.Ino=e) :
  Gd 0 X (dz m ⟨0,4,e,0,p,s,nm,false,false,b,[]⟩).1:=by
 obtain ⟨a1,a2,a3⟩:=cV.1 hp
 have Wo:0<=b/\b<=m.Next-1:=by
  rcases hb with rfl | ⟨x,hx,rfl,_⟩
  ·exact ⟨by decide,by omega⟩
  ·have:=h.R.num x hx
   simp only [bF,zB,ak] at this
   exact ⟨by omega,this.1.2⟩
 obtain ⟨i1,i2⟩:=hI
 obtain ⟨p1',p2'⟩:=p1
 have hR:=h.R.put ⟨0,4,e,0,p,s,nm,false,false,b,[]⟩ (by
  simp only [bF,zB,ak]
  refine ⟨⟨by omega,by omega⟩,⟨by decide,by decide⟩,⟨i1,i2⟩,⟨by decide,by decide⟩,⟨by omega,p2'⟩,⟨s0,s1⟩,Wo.1,by omega⟩) rfl (by
  simp only [cC]
  simp only [show ((4:Int)==1)=false from rfl,show ((4:Int)==6)=false from rfl,show ((4:Int)==2)=false from rfl,show ((4:Int)==3)=false from rfl,show ((4:Int)==4)=true from rfl,Bool.or_false,zF,zE,hd,hn,Bool.and_true,zD]
  omega)
 rw [kB hp] at hR ⊢
 have eE:∀ {x},x∈m.ae++[(⟨m.Next,4,e,0,p,s,nm,false,false,b,[]⟩:bO)]->x∈m.ae\/x=⟨m.Next,4,e,0,p,s,nm,false,false,b,[]⟩:=fun {x} hx=>by
  rcases zH.1 hx with hx | hx
  ·exact .inl hx
  ·exact .inr (zS.1 hx)
 have vM:∀ j,gj (m.ae++[(⟨m.Next,4,e,0,p,s,nm,false,false,b,[]⟩:bO)]) j=gj m.ae j+(if e=j then 1 else 0):=fun j=>by
  simp only [gj,List.countP_append,List.countP_singleton]
  by_cases hh:e=j
  ·simp [hh]
  ·rw [if_neg hh,beq_eq_false_iff_ne.2 hh]; simp
 refine ⟨hR,?_,h.g,?_,?_,?_,?_,?_,?_,?_,?_,?_⟩
 ·intro x hx
  rcases eE hx with hx | rfl
  ·exact h.sz x hx
  ·exact ⟨Nat.le_trans (eP hn).2 (by decide),by show ([]:List Int).length<=cO; decide⟩
 ·intro x hx h5
  rcases eE hx with hx | rfl
  ·exact h.fr x hx h5
  ·exact absurd h5 (by show ¬ (4:Int)=5; decide)
 ·rw [List.pairwise_append]
  refine ⟨h.Ed,List.pairwise_singleton _ _,?_⟩
  intro a _ c hc _ h5
  rw [zS] at hc; subst hc
  exact absurd h5 (by show ¬ (4:Int)=5; decide)
 ·intro j hj z8 lx
  rw [vM,if_neg (show ¬ (0:Int)=j by obtain ⟨a,b⟩:=hj; omega)]
  have:=h.lk j hj z8 lx
  rw [this]; split<;>simp<;>omega
 ·intro j hj lx
  have:=h.Cp j hj lx
  rw [vM,if_neg this.2]
  exact ⟨this.1,by obtain ⟨a,b⟩:=hj; omega⟩
 ·have:=h.rt
  rw [vM,if_neg this.2]; exact ⟨this.1,by decide⟩
 ·intro x hx h2
  rcases eE hx with hx | rfl
  ·exact h.nd x hx h2
  ·exact ho
 ·intro x hx h4
  rcases eE hx with hx | rfl
  ·obtain ⟨a,c⟩:=h.rd x hx h4
   refine ⟨a,?_⟩
   rcases c with c | c | ⟨f,hf,Cr,FK⟩
   ·exact .inl c
   ·exact .inr (.inl c)
   ·exact .inr (.inr ⟨f,List.mem_append_left _ hf,Cr,FK⟩)
  ·exact ⟨hs,.inl ho⟩
 ·rw [List.pairwise_append]
  refine ⟨h.us,List.pairwise_singleton _ _,?_⟩
  intro a ha c hc h1 _ h3
  rw [zS] at hc; subst hc
  exact hf a ha h1 h3
 ·intro x hx h4 h0
  rcases eE hx with hx | rfl
  ·obtain ⟨y,hy,a,c⟩:=h.af x hx h4 h0
   exact ⟨y,List.mem_append_left _ hy,a,c⟩
  ·rcases hb with rfl | ⟨x,hx,c1,c2,c3⟩
   ·exact absurd rfl h0
   ·exact ⟨x,List.mem_append_left _ hx,c1,c2,c3⟩
theorem J1:eS.size=0:=rfl
theorem fL {s:ByteArray} (h:bH s=true):s≠eS:=fun hh=>by
 have:=(eP h).1
 rw [hh,J1] at this; omega
theorem pA {b:Block} (hd:b.bZ=true):bw b=true↔b.ah.length=4/\b.Text=eS/\(∀ i,i<4->b.ah.getD i aq=aq\/(bH (b.ah.getD i aq).Name=true/\I8 (b.ah.getD i aq).Ino)) /\
  ∀ i k,k<i->i<4->b.ah.getD i aq≠aq->(b.ah.getD k aq).Name≠(b.ah.getD i aq).Name:=by
 have hz:∀ x:Slot,(x.Name==eS&&x.Ino==0)=true↔x=aq:=fun x=>by
  obtain ⟨n,i⟩:=x
  simp only [zB,beq_iff_eq,FT,Slot.mk.injEq]
 simp only [bw,hd,zE,zB,beq_iff_eq,xV]
 constructor
 ·rintro ⟨⟨h1,h2⟩,h3⟩
  refine ⟨h1,h2,fun i hi=> ?_,fun i k hk hi cL=> ?_⟩
  ·have:=lP h3 hi
   simp only [rG,Bool.or_eq_true] at this
   rcases this with h | h
   ·exact .inl ((hz _).1 h)
   ·simp only [zB,ak] at h; exact .inr h.1
  ·have:=lP h3 hi
   simp only [rG,Bool.or_eq_true] at this
   rcases this with h | h
   ·exact absurd ((hz _).1 h) cL
   ·rw [zB] at h
    have:=lP h.2 hk
    simpa using this
 ·rintro ⟨h1,h2,h3,h4⟩
  refine ⟨⟨h1,h2⟩,List.all_eq_true.2 fun i hi=> ?_⟩
  rw [List.mem_range'_1] at hi
  simp only [rG,Bool.or_eq_true]
  by_cases h:b.ah.getD i aq=aq
  ·exact .inl ((hz _).2 h)
  ·refine .inr ?_
   rw [zB]
   refine ⟨?_,List.all_eq_true.2 fun k hk=> ?_⟩
   ·simp only [zB,ak]; exact (h3 i (by omega)).resolve_left h
   ·rw [List.mem_range'_1] at hk
    simpa using h4 i k (by omega) (by omega) h
theorem m5 {b:Block} (h:bw b=true) (hd:b.bZ=true) {s:Nat} (hs:s<=3) {x:Slot} (hx:x=aq\/(bH x.Name=true/\I8 x.Ino)) (hu:x≠aq->∀ t,t≠s->(b.ah.getD t aq).Name≠x.Name):bw (eV b s x)=true:=by
 obtain ⟨h1,h2,h3,h4⟩:=(pA hd).1 h
 refine (pA (b:=eV b s x) hd).2 ⟨List.length_set.trans h1,h2,fun i hi=> ?_,fun i k hk hi cL=> ?_⟩
 ·simp only [eV,cF,h1]
  split
  ·exact hx
  ·exact h3 i hi
 ·simp only [eV,cF,h1] at cL ⊢
  by_cases rT:i=s
  ·subst rT
   rw [if_pos (c:=i=i/\i<4) ⟨rfl,by omega⟩] at cL ⊢
   rw [if_neg (c:=k=i/\i<4) (by omega)]
   exact hu cL k (by omega)
  ·rw [if_neg (c:=i=s/\s<4) (by omega)] at cL ⊢
   by_cases uy:k=s
   ·rw [if_pos (c:=k=s/\s<4) ⟨uy,by omega⟩]
    intro hh
    rcases hx with rfl | hx
    ·have:=(h3 i hi).resolve_left cL
     exact fL this.1 hh.symm
    ·exact hu (fun hz=>by rw [hz] at hx; exact fL hx.1 rfl) i rT hh.symm
   ·rw [if_neg (c:=k=s/\s<4) (by omega)]; exact h4 i k hk hi cL
def bI (d:aa) (p:Int) (s:Nat) (x:Slot):aa:=ca d p (eV (aH d p) s x)
theorem vy (T:cE d) {p:Int} (hp:lz p) (s:Nat) (x:Slot) {q:Int} (hq:lz q):(aH (bI d p s x) q).bZ=(aH d q).bZ:=by
 simp only [bI,ik T.db hp hq]; split
 ·next h=>rw [h]; rfl
 ·rfl
theorem kP (T:cE d) {p:Int} (hp:lz p) (hd:(aH d p).bZ=true) {s:Nat} (hs:s<=3) (x:Slot) {q:Int} (hq:lz q) (t:Nat):cA (bI d p s x) q t=if q=p/\t=s then x else cA d q t:=by
 have h4:=dh (T.nz hp.1 hp.2) hd
 simp only [cA,bI,ik T.db hp hq]
 by_cases h:q=p
 ·subst h
  simp only [if_true,true_and,eV,cF,h4]
  by_cases ht:t=s
  ·rw [if_pos ⟨ht,by omega⟩,if_pos ht]
  ·rw [if_neg (by omega),if_neg ht]
 ·rw [if_neg h,if_neg (fun hh=>h hh.1)]
theorem qV (T:cE d) {p:Int} (hp:lz p) (ho:m9 d p) (hd:(aH d p).bZ=true) {s:Nat} (hs:s<=3) (x:Slot) (j:Int) :
  kW (bI d p s x) j+(if (cA d p s).Ino=j then 1 else 0)=kW d j+(if x.Ino=j then 1 else 0):=by
 have h4:=dh (T.nz hp.1 hp.2) hd
 have lG:p≠0:=by obtain ⟨a,b⟩:=hp; omega
 have h1:=Se (d:=d) (d':=bI d p s x) (j:=j) hp fun q hq cL=>by
  simp only [jW,bI,ik T.db hp hq,if_neg cL]; rfl
 have MW:qJ d p=true:=(jz T.di lG).2 ho
 have e1:jW d j p=wk (aH d p) j:=by simp only [jW,MW,zE]
 have e2:jW (bI d p s x) j p=wk (eV (aH d p) s x) j:=by
  have XU:qJ (bI d p s x) p=true:=MW
  simp only [jW,XU,zE]
  simp only [bI,ik T.db hp hp,if_true]
 have h2:=Mm (b:=aH d p) (s:=s) (by omega) x j
 rw [e1,e2] at h1
 have h3:(cA d p s).Ino=((aH d p).ah.getD s aq).Ino:=rfl
 rw [h3]
 omega
theorem DG.clear (T:cE d) (g:DG d) {p:Int} (hp:lz p) (ho:m9 d p) (hd:(aH d p).bZ=true) {s:Nat} (hs:s<=3) (cL:∀ k t,aU d (cA d p s).Ino=2->aX d (cA d p s).Ino k≠0->(cA d (aX d (cA d p s).Ino k) t).Ino=0):DG (bI d p s aq):=by
 have qe:=fun {q} (hq:lz q) t=>kP T hp hd hs aq hq t
 have hc:=qV T hp ho hd hs aq
 refine ⟨g.one,g.bm,g.Nb,?_,?_,?_,g.dl,g.rt,?_,?_⟩
 ·intro i k hi h0
  show (aH (bI d p s aq) (aX d i k)).bZ=true↔_
  rw [vy T hp s aq (T.gX hi h0)]; exact g.pk i k hi h0
 ·intro q t hq Wm; rw [qe hq]
  split
  ·intro h; exact absurd rfl h
  ·exact g.nm q t hq Wm
 ·intro i k t hi zr hk nv h0
  show (cA (bI d p s aq) (aX d i k) t).Ino=0
  rw [qe (T.gX hi h0)]
  split
  ·rfl
  ·have h1:=hc i
   have hd0:¬ aq.Ino=i:=by show ¬ (0:Int)=i; obtain ⟨a,b⟩:=hi; omega
   rw [nv,if_neg hd0] at h1
   by_cases hh:(cA d p s).Ino=i
   ·subst hh; exact cL k t hk h0
   ·rw [if_neg hh] at h1; exact g.ne i k t hi zr hk (by omega) h0
 ·intro i k l a b hi hk h0 h0'
  show (cA (bI d p s aq) (aX d i k) a).Ino≠0->(cA (bI d p s aq) (aX d i k) a).Name=(cA (bI d p s aq) (aX d i l) b).Name->_
  rw [qe (T.gX hi h0),qe (T.gX hi h0')]
  split
  ·intro h; exact absurd rfl h
  ·split
   ·intro h1 h2
    rcases T.vQ (T.gX hi h0) a with h3 | h3
    ·rw [h3] at h1; exact absurd rfl h1
    ·exact absurd h2 (fL h3.2.2.1)
   ·exact g.un i k l a b hi hk h0 h0'
 ·obtain ⟨r,r1,r2⟩:=g.rk
  refine ⟨r,r1,fun i k t hi hk h0=> ?_⟩
  show (cA (bI d p s aq) (aX d i k) t).Ino≠0->aU d (cA (bI d p s aq) (aX d i k) t).Ino=2->r (cA (bI d p s aq) (aX d i k) t).Ino=_/\_
  rw [qe (T.gX hi h0)]
  split
  ·intro h; exact absurd rfl h
  ·exact r2 i k t hi hk h0
def RK (d:aa) (r:Int->Nat):Prop:=r 1=0/\∀ i k s,I8 i->aU d i=2->aX d i k≠0->(cA d (aX d i k) s).Ino≠0->aU d (cA d (aX d i k) s).Ino=2->r (cA d (aX d i k) s).Ino=r i+1/\r i<4
theorem DG.named (T:cE d) (g:DG d) {p:Int} (hp:lz p) (hd:(aH d p).bZ=true) {w:Int} {kw:Nat} (hw:I8 w) (TP:aU d w=2) (HU:aX d w kw=p) {s:Nat} (hs:s<=3) (h0:cA d p s=aq) {nm:ByteArray} {j:Int}
  (hn:bH nm=true) (hj:I8 j) (z8:j≠1) (lx:aU d j≠0) (hcw:w=1\/kW d w≠0) (hu:∀ l t,aX d w l≠0->(cA d (aX d w l) t).Name≠nm)
  (hr:aU d j=2->(∀ k,aX d j k=0)/\kW d j=0/\∀ r,RK d r->r w<4):DG (bI d p s ⟨nm,j⟩):=by
 have ho:m9 d p:=⟨w,kw,hw,TP,HU⟩
 have lG:p≠0:=by obtain ⟨a,b⟩:=hp; omega
 have QO:j≠0:=by obtain ⟨a,b⟩:=hj; omega
 have qe:=fun {q} (hq:lz q) t=>kP T hp hd hs ⟨nm,j⟩ hq t
 have hc:=qV T hp ho hd hs ⟨nm,j⟩
 have gY:∀ i k,I8 i->aX d i k=p->i=w/\k=kw:=fun i k hi hh=>g.one i k w kw hi hw (hh.trans HU.symm) (by rw [hh]; exact lG)
 refine ⟨g.one,g.bm,g.Nb,?_,?_,?_,g.dl,g.rt,?_,?_⟩
 ·intro i k hi h0
  show (aH (bI d p s ⟨nm,j⟩) (aX d i k)).bZ=true↔_
  rw [vy T hp s _ (T.gX hi h0)]; exact g.pk i k hi h0
 ·intro q t hq Wm; rw [qe hq]
  split
  ·intro _; exact ⟨lx,z8⟩
  ·exact g.nm q t hq Wm
 ·intro i k t hi zr hk nv hz
  show (cA (bI d p s ⟨nm,j⟩) (aX d i k) t).Ino=0
  have h1:=hc i
  rw [nv,h0,if_neg (show ¬ aq.Ino=i by show ¬ (0:Int)=i; obtain ⟨a,b⟩:=hi; omega)] at h1
  rw [qe (T.gX hi hz)]
  split
  ·next hh =>
   have:=gY i k hi hh.1
   rcases hcw with h2 | h2
   ·exact absurd (this.1.trans h2) zr
   ·rw [this.1] at h1; omega
  ·exact g.ne i k t hi zr hk (by omega) hz
 ·intro i k l a b hi hk hz FG
  show (cA (bI d p s ⟨nm,j⟩) (aX d i k) a).Ino≠0->(cA (bI d p s ⟨nm,j⟩) (aX d i k) a).Name=(cA (bI d p s ⟨nm,j⟩) (aX d i l) b).Name->_
  rw [qe (T.gX hi hz),qe (T.gX hi FG)]
  split
  ·next h1 =>
   have e1:=gY i k hi h1.1
   split
   ·next h2=>intro _ _; have e2:=gY i l hi h2.1; exact ⟨e1.2.trans e2.2.symm,h1.2.trans h2.2.symm⟩
   ·intro _ h3; rw [e1.1] at h3 FG; exact absurd h3.symm (hu l b FG)
  ·split
   ·next h2 =>
    have e2:=gY i l hi h2.1
    intro _ h3; rw [e2.1] at h3 hz; exact absurd h3 (hu k a hz)
   ·exact g.un i k l a b hi hk hz FG
 ·obtain ⟨r,r1,r2⟩:=g.rk
  by_cases h2:aU d j=2
  ·obtain ⟨q1,q2,q3⟩:=hr h2
   have q3:=q3 r ⟨r1,r2⟩
   have c0:=(T.FV QO).1 q2
   have hwj:w≠j:=fun hh=>by rw [← hh] at q1; rw [q1] at HU; exact lG HU.symm
   refine ⟨fun i=>if i=j then r w+1 else r i,by show (if (1:Int)=j then r w+1 else r 1)=0; rw [if_neg (Ne.symm z8)]; exact r1,fun i k t hi hk hz=> ?_⟩
   have Yf:i≠j:=fun hh=>by subst hh; exact hz (q1 k)
   show (cA (bI d p s ⟨nm,j⟩) (aX d i k) t).Ino≠0->aU d (cA (bI d p s ⟨nm,j⟩) (aX d i k) t).Ino=2->(if (cA (bI d p s ⟨nm,j⟩) (aX d i k) t).Ino=j then r w+1 else r (cA (bI d p s ⟨nm,j⟩) (aX d i k) t).Ino)=(if i=j then r w+1 else r i)+1/\(if i=j then r w+1 else r i)<4
   rw [qe (T.gX hi hz),if_neg Yf]
   split
   ·next hh =>
    intro _ _
    have e1:=gY i k hi hh.1
    rw [if_pos rfl,e1.1]; exact ⟨rfl,q3⟩
   ·intro h3 h4
    rw [if_neg (c0 _ t (T.gX hi hz) ⟨i,k,hi,hk,rfl⟩)]
    exact r2 i k t hi hk hz h3 h4
  ·refine ⟨r,r1,fun i k t hi hk hz=> ?_⟩
   show (cA (bI d p s ⟨nm,j⟩) (aX d i k) t).Ino≠0->aU d (cA (bI d p s ⟨nm,j⟩) (aX d i k) t).Ino=2->r (cA (bI d p s ⟨nm,j⟩) (aX d i k) t).Ino=r i+1/\r i<4
   rw [qe (T.gX hi hz)]
   split
   ·intro _ h4; exact absurd h4 h2
   ·exact r2 i k t hi hk hz
theorem DG.u4 (g:DG d) {p:Int} (ho:m9 d p) (hp:p≠0):(aH d p).bZ=true:=by
 obtain ⟨i,k,hi,h1,h2⟩:=ho
 have:=(g.pk i k hi (by rw [h2]; exact hp)).2 h1
 rw [h2] at this; exact this
theorem pS {x:bO} (h:cC m x=true) (hk:x.Kind=2\/x.Kind=3):0<x.Block/\(aH m.aa x.Block).bZ=true/\(cA m.aa x.Block x.Slot.toNat).Ino=x.Ino:=by
 have e2:((x.Kind==2)||(x.Kind==3))=true:=by simpa using hk
 have e1:((x.Kind==1)||(x.Kind==6))=false:=by rw [Bool.or_eq_false_iff]; constructor<;>(rw [beq_eq_false_iff_ne]; omega)
 simp only [cC,e1,e2,zE,zF,zB,zD,beq_iff_eq] at h
 exact ⟨h.1.1,h.1.2,h.2⟩
theorem pU {x:bO} (h:cC m x=true) (hk:x.Kind=4):0<x.Block/\(aH m.aa x.Block).bZ=true/\bH x.Name=true:=by
 simp only [cC,hk] at h
 simp at h
 exact ⟨h.1.1,h.1.2,h.2⟩
theorem ey {x:bO} (h:bF m x=true):(1<=x.Id/\x.Id<=m.Next-1)/\(1<=x.Kind/\x.Kind<=6)/\I8 x.Ino/\(0<=x.Ptr/\x.Ptr<=1)/\(0<=x.Block/\x.Block<=16)/\(0<=x.Slot/\x.Slot<=3)/\(0<=x.bC/\x.bC<=m.Next-1):=by
 simp only [bF,zB,ak] at h; exact h
theorem fy.bI (h:fy m) {p:Int} (hp:lz p) (hd:(aH m.aa p).bZ=true) {s:Int} (s0:0<=s) (s1:s<=3) {x:Slot} (hx:x=aq\/(bH x.Name=true/\I8 x.Ino)) (hu:x≠aq->∀ t,t≠s.toNat->(cA m.aa p t).Name≠x.Name)
  (hf:∀ y∈m.ae,jQ y=true->y.Block=p->y.Slot≠s):fy ⟨Soft.bI m.aa p s.toNat x,m.an,m.ae,m.Next⟩:=by
 refine h.pI hp.1 hp.2 (b:=eV (aH m.aa p) s.toNat x) (m5 (h.d.nz hp.1 hp.2) hd (by omega) hx hu) ?_ fun _ _ _ _=>hd
 intro y hy hk hb
 have uy:y.Kind=2\/y.Kind=3:=by simpa using hk
 have h1:=pS (h.ym y hy) uy
 refine ⟨hd,?_⟩
 have h2:=hf y hy (by rw [fT]; omega) hb
 have h3:=(ey (h.num y hy)).2.2.2.2.2.1
 simp only [eV,cF]
 rw [if_neg (by omega),← hb,beq_iff_eq]
 exact h1.2.2
theorem Gd.clear (h:Gd 0 X m) {p s:Int} (hp:lz p) (ho:m9 m.aa p) (s0:0<=s) (s1:s<=3) (hj:(cA m.aa p s.toNat).Ino≠0) (hf:∀ y∈m.ae,jQ y=true->y.Block=p->y.Slot≠s)
  (cL:∀ k t,aU m.aa (cA m.aa p s.toNat).Ino=2->aX m.aa (cA m.aa p s.toNat).Ino k≠0->(cA m.aa (aX m.aa (cA m.aa p s.toNat).Ino k) t).Ino=0) :
  Gd (cA m.aa p s.toNat).Ino X ⟨bI m.aa p s.toNat aq,m.an,m.ae,m.Next⟩:=by
 have T:=h.T'
 have lG:p≠0:=by obtain ⟨a,b⟩:=hp; omega
 have hd:=h.g.u4 ho lG
 have hJ:=T.CO hp hj
 obtain ⟨hk,z8⟩:=h.g.nm p s.toNat hp ho hj
 have hc:=qV T hp ho hd (s:=s.toNat) (by omega) aq
 have qe:=fun {q} (hq:lz q) t=>kP T hp hd (s:=s.toNat) (by omega) aq hq t
 have hR:=h.R.bI hp hd s0 s1 (x:=aq) (.inl rfl) (fun hz=>absurd rfl hz) hf
 have hg:=h.g.clear T hp ho hd (s:=s.toNat) (by omega) cL
 refine ⟨hR,h.sz,hg,h.fr,h.Ed,?_,?_,⟨h.rt.1,z8⟩,h.nd,?_,h.us,h.af⟩
 ·intro j XE z8 lx
  have h1:=h.lk j XE z8 lx
  have h2:=hc j
  rw [if_neg (show ¬ (0:Int)=j by obtain ⟨a,b⟩:=XE; omega)] at h1
  rw [if_neg (show ¬ aq.Ino=j by show ¬ (0:Int)=j; obtain ⟨a,b⟩:=XE; omega),Nat.add_zero] at h2
  show gM m.aa j=(kW (bI m.aa p s.toNat aq) j:Int)+(gj m.ae j:Nat)+_
  rw [h1,show kW m.aa j=kW (bI m.aa p s.toNat aq) j+(if (cA m.aa p s.toNat).Ino=j then 1 else 0) from h2.symm]
  split<;>simp<;>omega
 ·intro j XE lx
  exact ⟨(h.Cp j XE lx).1,fun hh=>hk (hh▸lx)⟩
 ·intro x hx h4
  obtain ⟨a,b⟩:=h.rd x hx h4
  refine ⟨?_,b⟩
  have hb:=pU (h.R.ym x hx) h4
  have hn:=ey (h.R.num x hx)
  show cA (bI m.aa p s.toNat aq) x.Block x.Slot.toNat=aq
  rw [qe ⟨by omega,hn.2.2.2.2.1.2⟩]
  split
  ·rfl
  ·exact a
theorem Gd.named {j:Int} (h:Gd j X m) {p s w:Int} {kw:Nat} {nm:ByteArray} (hp:lz p) (hw:I8 w) (TP:aU m.aa w=2) (HU:aX m.aa w kw=p) (s0:0<=s) (s1:s<=3) (h0:cA m.aa p s.toNat=aq)
  (hn:bH nm=true) (hJ:I8 j) (hf:∀ y∈m.ae,jQ y=true->y.Block=p->y.Slot≠s) (hcw:w=1\/kW m.aa w≠0) (hu:∀ l t,aX m.aa w l≠0->(cA m.aa (aX m.aa w l) t).Name≠nm)
  (hr:aU m.aa j=2->(∀ k,aX m.aa j k=0)/\kW m.aa j=0/\∀ r,RK m.aa r->r w<4):Gd 0 X ⟨bI m.aa p s.toNat ⟨nm,j⟩,m.an,m.ae,m.Next⟩:=by
 have T:=h.T'
 have lG:p≠0:=by obtain ⟨a,b⟩:=hp; omega
 have ho:m9 m.aa p:=⟨w,kw,hw,TP,HU⟩
 have hd:=h.g.u4 ho lG
 have hk:aU m.aa j≠0:=fun hh=>(h.Cp j hJ hh).2 rfl
 have z8:=h.rt.2
 have QO:j≠0:=by obtain ⟨a,b⟩:=hJ; omega
 have hc:=qV T hp ho hd (s:=s.toNat) (by omega) ⟨nm,j⟩
 have qe:=fun {q} (hq:lz q) t=>kP T hp hd (s:=s.toNat) (by omega) ⟨nm,j⟩ hq t
 have hR:=h.R.bI hp hd s0 s1 (x:=⟨nm,j⟩) (.inr ⟨hn,hJ⟩) (fun _ t _=>by have:=hu kw t (by rw [HU]; exact lG); rw [HU] at this; exact this) hf
 have hg:=h.g.named T hp hd hw TP HU (s:=s.toNat) (by omega) h0 hn hJ z8 hk hcw hu hr
 refine ⟨hR,h.sz,hg,h.fr,h.Ed,?_,?_,⟨h.rt.1,by decide⟩,h.nd,?_,h.us,h.af⟩
 ·intro a ha Ve pC
  have h1:=h.lk a ha Ve pC
  have h2:=hc a
  rw [h0,if_neg (show ¬ aq.Ino=a by show ¬ (0:Int)=a; obtain ⟨x,y⟩:=ha; omega),Nat.add_zero] at h2
  show gM m.aa a=(kW (bI m.aa p s.toNat ⟨nm,j⟩) a:Int)+(gj m.ae a:Nat)+_
  rw [h1,if_neg (show ¬ (0:Int)=a by obtain ⟨x,y⟩:=ha; omega),show kW (bI m.aa p s.toNat ⟨nm,j⟩) a=kW m.aa a+(if j=a then 1 else 0) from h2]
  split<;>simp<;>omega
 ·intro a ha pC
  exact ⟨(h.Cp a ha pC).1,by obtain ⟨x,y⟩:=ha; omega⟩
 ·intro x hx h4
  obtain ⟨a,b⟩:=h.rd x hx h4
  refine ⟨?_,b⟩
  have hb:=pU (h.R.ym x hx) h4
  have hn:=ey (h.R.num x hx)
  show cA (bI m.aa p s.toNat ⟨nm,j⟩) x.Block x.Slot.toNat=aq
  rw [qe ⟨by omega,hn.2.2.2.2.1.2⟩]
  split
  ·next hh=>exact absurd hh.2 (fun h2=>hf x hx (by rw [fT]; omega) hh.1 (by omega))
  ·exact a
theorem nA {α β:Type} (P:α->Bool) (f:α->β) (z:β):∀ l:List α,(kt P f z l=z/\∀ x∈l,P x=false)\/∃ x∈l,P x=true/\kt P f z l=f x
 | []=> .inl ⟨rfl,fun x hx=>by cases hx⟩
 | x::l=>by
  simp only [kt]
  cases h:P x with
  | true=>exact .inr ⟨x,zO,h,rfl⟩
  | false =>
   rcases nA P f z l with ⟨h1,h2⟩ | ⟨y,hy,h1,h2⟩
   ·refine .inl ⟨h1,fun y hy=> ?_⟩
    rcases zI.1 hy with rfl | hy
    ·exact h
    ·exact h2 y hy
   ·exact .inr ⟨y,zJ _ hy,h1,h2⟩
theorem LZ (h:fy m) {x:bO} (hx:x∈m.ae):iq m x.Id=x.Kind:=by
 rcases nA (fun d=>d.Id==x.Id) (·.Kind) 0 m.ae with ⟨_,h2⟩ | ⟨y,hy,h1,h2⟩
 ·have:=h2 x hx; simp at this
 ·rw [iq,h2]
  rw [pF h.ids hy hx (by simpa using h1)]
theorem vi (h:fy m) (p s:Int):(fQ m p s=0/\∀ x∈m.ae,jQ x=true->x.Block=p->x.Slot≠s)\/∃ x∈m.ae,jQ x=true/\x.Block=p/\x.Slot=s/\fQ m p s=x.Id/\iq m (fQ m p s)=x.Kind:=by
 rcases nA (fun d=>(jQ d&&(d.Block==p))&&(d.Slot==s)) (·.Id) 0 m.ae with ⟨h1,h2⟩ | ⟨y,hy,h1,h2⟩
 ·refine .inl ⟨h1,fun x hx hn hb hs=> ?_⟩
  have:=h2 x hx
  rw [hn,beq_iff_eq.2 hb,beq_iff_eq.2 hs] at this; cases this
 ·simp only [zB,beq_iff_eq] at h1
  refine .inr ⟨y,hy,h1.1.1,h1.1.2,h1.2,h2,?_⟩
  rw [fQ,h2]; exact LZ h hy
theorem Hv (h:fy m):iq m 0=0:=by
 rcases nA (fun d=>d.Id==0) (·.Kind) 0 m.ae with ⟨h1,_⟩ | ⟨y,hy,h1,h2⟩
 ·exact h1
 ·have:=(ey (h.num y hy)).1
  have h3:y.Id=0:=by simpa using h1
  omega
theorem Gd.eC (h:Gd 0 [] m) (hp:fv m=true) {p s b:Int} (hB:lz p) (ho:m9 m.aa p) (s0:0<=s) (s1:s<=3) (hj:(cA m.aa p s.toNat).Ino≠0)
  (cL:∀ k t,aU m.aa (cA m.aa p s.toNat).Ino=2->aX m.aa (cA m.aa p s.toNat).Ino k≠0->(cA m.aa (aX m.aa (cA m.aa p s.toNat).Ino k) t).Ino=0)
  (hb:b=0\/∃ x∈m.ae,x.Id=b/\(x.Kind=2\/x.Kind=3)/\x.Ino=(cA m.aa p s.toNat).Ino/\b≠fQ m p s):Gd 0 [] (Soft.eC m p s b):=by
 have T:=h.T'
 have lG:p≠0:=by obtain ⟨a,b⟩:=hB; omega
 have hd:=h.g.u4 ho lG
 have hJ:=T.CO hB hj
 have SX:=h.R.dy
 have qe:pN m p s=cA m.aa p s.toNat:=rfl
 obtain ⟨m1,m2,m3⟩:=cV.1 hp
 simp only [Soft.eC,qe]
 rcases vi h.R p s with ⟨h1,h2⟩ | ⟨x,hx,hn,VC,Tv,h1,h2⟩
 ·have hc:=h.clear hB ho s0 s1 hj h2 cL
  rw [h1,Hv h.R]
  simp only [show ((0:Int)==2)=false from rfl,show ((0:Int)==3)=false from rfl,Bool.or_false,zF]
  have hg:=hc.bG (y:=bP (aE p) m.an) ((cK _ _).trans SX)
  have Nd:bH (cA m.aa p s.toNat).Name=true:=by
   rcases T.vQ hB s.toNat with h3 | h3
   ·rw [h3] at hj; exact absurd rfl hj
   ·exact h3.2.2.1
  refine hg.UH (cV.2 ⟨m1,m2,m3⟩) hj hJ hB ho ?_ s0 s1 ?_ Nd h2 ?_
  ·exact (vy T hB _ _ hB).trans hd
  ·show cA (bI m.aa p s.toNat aq) p s.toNat=aq
   rw [kP T hB hd (by omega) _ hB,if_pos ⟨rfl,rfl⟩]
  ·rcases hb with rfl | ⟨x,hx,a,b,c,_⟩
   ·exact .inl rfl
   ·exact .inr ⟨x,hx,a,b,c⟩
 ·have Vn:x.Kind=2\/x.Kind=3:=by
   rw [fT] at hn
   rcases hn with h3 | h3 | h3
   ·exact .inl h3
   ·exact .inr h3
   ·have:=(h.rd x hx h3).1
    rw [VC,Tv] at this; rw [this] at hj; exact absurd rfl hj
  have Wz:x.Ino=(cA m.aa p s.toNat).Ino:=by
   have:=(pS (h.R.ym x hx) Vn).2.2
   rw [VC,Tv] at this; exact this.symm
  have e1:((iq m (fQ m p s)==2)||(iq m (fQ m p s)==3))=true:=by rw [h2]; simpa using Vn
  rw [e1,zE]
  have hS:=h.shown hx Vn (b:=b) (by
   rcases hb with rfl | ⟨y,hy,a,b,c,c2⟩
   ·exact .inl rfl
   ·exact .inr ⟨y,hy,a,b,by rw [Wz]; exact c,by rw [← h1]; exact c2⟩)
  have hf:∀ y∈(Soft.shown x.Id b m).ae,jQ y=true->y.Block=p->y.Slot≠s:=by
   intro y hy Yr VY Vp
   obtain ⟨z,hz,T0,rfl⟩:=eX.1 hy
   obtain ⟨a1,a2,a3,a4,a5,a6,a7,a8⟩:=bh x.Id b z
   rw [a5] at VY; rw [a6] at Vp
   have hnz:jQ z=true:=by simpa only [jQ,a2] using Yr
   have cL:x≠z:=fun hh=>T0 (by rw [hh])
   have:=h.us
   rw [List.pairwise_iff_getElem] at this
   obtain ⟨i1,zr,rfl⟩:=List.mem_iff_getElem.1 hx
   obtain ⟨i2,Vo,rfl⟩:=List.mem_iff_getElem.1 hz
   rcases Nat.lt_trichotomy i1 i2 with fP | heq | hgt
   ·exact this i1 i2 zr Vo fP hn hnz (VC.trans VY.symm) (Tv.trans Vp.symm)
   ·subst heq; exact cL rfl
   ·exact this i2 i1 Vo zr hgt hnz hn (VY.trans VC.symm) (Vp.trans Tv.symm)
  have hc:=hS.clear hB ho s0 s1 hj hf cL
  have hg:=hc.bG (y:=(Soft.shown x.Id b (Soft.nq m p s)).an) ((yq _ _ _ _).trans ((cK _ _).trans SX))
  have pO:(⟨bI m.aa p s.toNat aq,(Soft.shown x.Id b (Soft.nq m p s)).an,(Soft.shown x.Id b m).ae,m.Next⟩:Mem)=Soft.shown (fQ m p s) b (Soft.nq m p s):=by rw [h1]; rfl
  have rY:Gd (cA m.aa p s.toNat).Ino [] (Soft.shown (fQ m p s) b (Soft.nq m p s)):=pO▸hg
  refine rY.iC hJ (cV.2 ⟨?_,m2,m3⟩)
  simp only [Soft.shown,List.length_map]
  exact Nat.lt_of_le_of_lt (List.length_filter_le _ _) m1
theorem Gd.bits (h:Gd e X m) {bb bi:List Bool} (h1:bb.length=16) (h2:bi.length=8) (hb:∀ p,lz p->Ca m.aa p=true->bb.getD (p-1).toNat false=true) (hi:∀ i,I8 i->CA m.aa i=true->bi.getD (i-1).toNat false=true) :
  Gd e X ⟨⟨⟨bb,bi⟩,m.aa.ad,m.aa.ab⟩,m.an,m.ae,m.Next⟩:=by
 have T:=h.T'
 have hg:DG ⟨⟨bb,bi⟩,m.aa.ad,m.aa.ab⟩:=DG.same T h.g T.di rfl (fun _ _=>rfl) (fun _ _ _=>rfl) (fun _ _ _=>rfl) (fun i k a b=>hb _ (T.gX a b) (h.g.bm i k a b)) (fun i a b=>hi i a (h.g.Nb i a b))
 refine ⟨h.R.tT h1 h2,h.sz,hg,?_,h.Ed,h.lk,h.Cp,h.rt,h.nd,h.rd,h.us,h.af⟩
 intro x hx h5
 obtain ⟨a1,a2,a3,a4⟩:=h.fr x hx h5
 refine ⟨a1,hi _ (dq (h.R.num x hx)) a2,a3,fun p hp=>⟨hb p ?_ (a4 p hp).1,(a4 p hp).2⟩⟩
 have:=ak.1 (List.all_eq_true.1 (h.R.bs x hx) p hp)
 exact ⟨this.1,this.2⟩
theorem Gd.jj (h:Gd 0 X m) {i k:Int} (hi:I8 i) (hk:k=1\/k=2) (h0:aU m.aa i=0) (hb:CA m.aa i=true) (hf:∀ x∈m.ae,x.Kind=5->x.Ino≠i) :
  Gd i X ⟨aP m.aa i (aY k),m.an,m.ae,m.Next⟩:=by
 have T:=h.T'
 have JD:i≠0:=by obtain ⟨a,b⟩:=hi; omega
 have zr:i≠1:=fun hh=>by have:=h.g.rt; rw [← hh,h0] at this; exact absurd this (by decide)
 have QE:k≠0:=by omega
 have hN:aY k=⟨k,1,[0,0]⟩:=by rcases hk with rfl | rfl<;>rfl
 have hz:∀ kk,([0,0]:List Int).getD kk 0=0:=fun kk=>by
  match kk with
  | 0=>rfl
  | 1=>rfl
  | n+2=>rfl
 have hold:∀ kk,aX m.aa i kk=0:=fun kk=>by
  have h1:=T.sF hi.1 hi.2
  simp only [bj,zB,List.all_eq_true] at h1
  by_cases fP:kk<(ai m.aa i).ax.length
  ·have:=(h1.2.2.2.1 _ (aV 0 fP)).2
   have h2:(ai m.aa i).Kind=0:=h0
   rw [h2] at this
   have h3:((ai m.aa i).ax.getD kk 0==0)=true:=this
   exact beq_iff_eq.1 h3
  ·simp [aX,zT,List.getElem?_eq_none (Nat.le_of_not_lt fP)]
 have c0:∀ p s,lz p->m9 m.aa p->(cA m.aa p s).Ino≠i:=fun p s hp ho he=>by
  have:=(h.g.nm p s hp ho (by rw [he]; exact JD)).1
  rw [he] at this; exact this h0
 have ab7:kW m.aa i=0:=(T.FV JD).2 c0
 rw [hN]
 have iV:=fun {j} (hj:I8 j)=>dB T.di hi hj ⟨k,1,[0,0]⟩
 have VK:=fun {j} (hj:I8 j)=>gu T.di hi hj ⟨k,1,[0,0]⟩
 have ng:∀ {j} (hj:I8 j) kk,aX (aP m.aa i ⟨k,1,[0,0]⟩) j kk=aX m.aa j kk:=fun {j} hj kk=>by
  rw [eN T.di hi hj]; split
  ·next hh=>rw [hh,hold,hz]
  ·rfl
 have hO:∀ p,p≠0->(m9 (aP m.aa i ⟨k,1,[0,0]⟩) p↔m9 m.aa p):=fun p hp=>by
  constructor
  ·rintro ⟨j,kk,hj,a,b⟩
   rw [ng hj] at b; rw [iV hj] at a
   by_cases hh:j=i
   ·subst hh; rw [hold] at b; exact absurd b.symm hp
   ·rw [if_neg hh] at a; exact ⟨j,kk,hj,a,b⟩
  ·rintro ⟨j,kk,hj,a,b⟩
   have hh:j≠i:=fun hh=>by subst hh; rw [hold] at b; exact hp b.symm
   exact ⟨j,kk,hj,by rw [iV hj,if_neg hh]; exact a,by rw [ng hj]; exact b⟩
 have h8:(aP m.aa i ⟨k,1,[0,0]⟩).ad.length=8:=List.length_set.trans T.di
 have hc:∀ j,kW (aP m.aa i ⟨k,1,[0,0]⟩) j=kW m.aa j:=fun j=>nN fun p hp=>by
  have lG:p≠0:=by obtain ⟨a,b⟩:=hp; omega
  simp only [jW]
  rw [xN T.di h8 lG (hO p lG)]; rfl
 have hR:=h.R.m4 hi.1 hi.2 (x:=⟨k,1,[0,0]⟩) (by rw [← hN]; exact yJ hk) (fun x hx vN he=>by
  have Fq:=h.R.ym x hx
  have e1:((x.Kind==1)||(x.Kind==6))=true:=vN
  simp only [cC,e1,zE,zB,zD,beq_iff_eq,he] at Fq
  have h3:=hold x.Ptr.toNat
  simp only [aX] at h3
  omega)
 have hg:DG (aP m.aa i ⟨k,1,[0,0]⟩):=by
  refine ⟨?_,?_,?_,?_,?_,?_,?_,?_,?_,?_⟩
  ·intro a x b y ha hb; rw [ng ha,ng hb]; exact h.g.one a x b y ha hb
  ·intro a x ha; rw [ng ha]; exact h.g.bm a x ha
  ·intro a ha; rw [iV ha]; split
   ·next hh=>intro _; rw [hh]; exact hb
   ·exact h.g.Nb a ha
  ·intro a x ha; rw [ng ha,iV ha]; split
   ·next hh=>intro h1; rw [hh,hold] at h1; exact absurd rfl h1
   ·exact h.g.pk a x ha
  ·intro p s hB ho hz
   have lG:p≠0:=by obtain ⟨a,b⟩:=hB; omega
   rw [hO p lG] at ho
   have h1:=h.g.nm p s hB ho hz
   refine ⟨?_,h1.2⟩
   show aU (aP m.aa i ⟨k,1,[0,0]⟩) (cA m.aa p s).Ino≠0
   rw [iV (T.CO hB hz),if_neg (c0 p s hB ho)]; exact h1.1
  ·intro a x s ha Ve pC QQ; rw [hc] at QQ; rw [ng ha]; rw [iV ha] at pC
   by_cases hh:a=i
   ·intro h1; rw [hh,hold] at h1; exact absurd rfl h1
   ·rw [if_neg hh] at pC; exact h.g.ne a x s ha Ve pC QQ
  ·intro j hj lx; rw [VK hj]; rw [iV hj] at lx
   by_cases hh:j=i
   ·rw [if_pos hh]
   ·rw [if_neg hh] at lx ⊢; exact h.g.dl j hj lx
  ·rw [iV ⟨by decide,by decide⟩,if_neg (Ne.symm zr)]; exact h.g.rt
  ·intro a x y s t ha pC; rw [ng ha,ng ha]; rw [iV ha] at pC
   by_cases hh:a=i
   ·intro h1; rw [hh,hold] at h1; exact absurd rfl h1
   ·rw [if_neg hh] at pC; exact h.g.un a x y s t ha pC
  ·obtain ⟨r,r1,r2⟩:=h.g.rk
   refine ⟨r,r1,fun a x s ha pC=> ?_⟩
   rw [ng ha]; rw [iV ha] at pC
   by_cases hh:a=i
   ·intro h1; rw [hh,hold] at h1; exact absurd rfl h1
   ·rw [if_neg hh] at pC
    intro h1 h2 h3
    have Jy:(cA m.aa (aX m.aa a x) s).Ino≠0:=h2
    have K7:aU (aP m.aa i ⟨k,1,[0,0]⟩) (cA m.aa (aX m.aa a x) s).Ino=2:=h3
    rw [iV (T.CO (T.gX ha h1) Jy),if_neg (c0 _ s (T.gX ha h1) ⟨a,x,ha,pC,rfl⟩)] at K7
    exact r2 a x s ha pC h1 Jy K7
 have Ua:∀ x∈m.ae,x.Kind=2\/x.Kind=3\/x.Kind=4->x.Block≠0:=fun x hx hk=>by
  rcases hk with h1 | h1 | h1
  ·have:=(pS (h.R.ym x hx) (.inl h1)).1; omega
  ·have:=(pS (h.R.ym x hx) (.inr h1)).1; omega
  ·have:=(pU (h.R.ym x hx) h1).1; omega
 refine ⟨hR,h.sz,hg,?_,h.Ed,?_,?_,⟨h.rt.1,zr⟩,?_,?_,h.us,h.af⟩
 ·intro x hx h5
  obtain ⟨a1,a2,a3,a4⟩:=h.fr x hx h5
  refine ⟨?_,a2,a3,fun p hp=>⟨(a4 p hp).1,fun j l hj=> ?_⟩⟩
  ·show aU (aP m.aa i ⟨k,1,[0,0]⟩) x.Ino=0
   rw [iV (dq (h.R.num x hx)),if_neg (hf x hx h5)]; exact a1
  ·show aX (aP m.aa i ⟨k,1,[0,0]⟩) j l≠p
   rw [ng hj]; exact (a4 p hp).2 j l hj
 ·intro j hj z8 lx
  have tn:aU (aP m.aa i ⟨k,1,[0,0]⟩) j≠0:=lx
  rw [iV hj] at tn
  show gM (aP m.aa i ⟨k,1,[0,0]⟩) j=(kW (aP m.aa i ⟨k,1,[0,0]⟩) j:Int)+(gj m.ae j:Nat)+_
  rw [hc,VK hj]
  by_cases hh:j=i
  ·rw [if_pos hh,if_pos hh.symm,hh,ab7,(h.Cp i hi h0).1]; rfl
  ·rw [if_neg hh] at tn ⊢
   rw [if_neg (fun q=>hh q.symm)]
   have:=h.lk j hj z8 tn
   rw [if_neg (show ¬ (0:Int)=j by obtain ⟨a,b⟩:=hj; omega)] at this
   exact this
 ·intro j hj lx
  have tn:aU (aP m.aa i ⟨k,1,[0,0]⟩) j=0:=lx
  rw [iV hj] at tn
  by_cases hh:j=i
  ·rw [if_pos hh] at tn; exact absurd tn QE
  ·rw [if_neg hh] at tn
   exact ⟨(h.Cp j hj tn).1,fun q=>hh q.symm⟩
 ·intro x hx h2
  exact (hO _ (Ua x hx (by omega))).2 (h.nd x hx h2)
 ·intro x hx h4
  obtain ⟨a,b⟩:=h.rd x hx h4
  exact ⟨a,b.imp_left (hO _ (Ua x hx (by omega))).2⟩
theorem Gd.Pb (h:Gd 0 X m) {i:Int} (hi:I8 i) (hk:aU m.aa i=1) (hl:gM m.aa i<200):Gd i X ⟨aP m.aa i ⟨(ai m.aa i).Kind,(ai m.aa i).Links+1,(ai m.aa i).ax⟩,m.an,m.ae,m.Next⟩:=by
 have T:=h.T'
 have zr:i≠1:=fun hh=>by have:=h.g.rt; rw [← hh,hk] at this; exact absurd this (by decide)
 have xi:=T.sF hi.1 hi.2
 generalize hx:(⟨(ai m.aa i).Kind,(ai m.aa i).Links+1,(ai m.aa i).ax⟩:aR)=x
 have hxk:x.Kind=aU m.aa i:=by rw [← hx]; rfl
 have QP:x.Links=gM m.aa i+1:=by rw [← hx]; rfl
 have hxp:x.ax=(ai m.aa i).ax:=by rw [← hx]
 have iV:∀ j,I8 j->aU (aP m.aa i x) j=aU m.aa j:=fun j hj=>by
  rw [dB T.di hi hj]; split
  ·next hh=>rw [hh,hxk]
  ·rfl
 have ng:∀ j k,I8 j->aX (aP m.aa i x) j k=aX m.aa j k:=fun j k hj=>by
  rw [eN T.di hi hj]; split
  ·next hh=>rw [hh,hxp]; rfl
  ·rfl
 have h8:(aP m.aa i x).ad.length=8:=List.length_set.trans T.di
 have hO:=n6 iV ng
 have hc:=oi T.di h8 iV ng rfl
 have hR:=h.R.m4 hi.1 hi.2 (x:=x) (by
  simp only [bj,zB,ak] at xi ⊢
  have uy:(ai m.aa i).Kind=1:=hk
  have yw:(ai m.aa i).Links<200:=hl
  rw [← hx]; simp only [uy] at xi ⊢
  exact ⟨by decide,by omega,xi.2.2.1,xi.2.2.2.1,rfl⟩) (fun y hy vN he=>by
  have Fq:=h.R.ym y hy
  have e1:((y.Kind==1)||(y.Kind==6))=true:=vN
  simp only [cC,e1,zE,zB,zD,he] at Fq
  rw [hxp]; exact Fq.2)
 have hg:DG (aP m.aa i x):=DG.same T h.g h8 rfl iV ng (fun j hj h2=>by
  rw [gu T.di hi hj]; split
  ·next hh=>rw [hh,hk] at h2; exact absurd h2 (by decide)
  ·rfl) (fun a k ha h0=>h.g.bm a k ha h0) (fun a ha h0=>h.g.Nb a ha h0)
 refine ⟨hR,h.sz,hg,?_,h.Ed,?_,?_,⟨h.rt.1,zr⟩,fun y hy h2=>(hO _).2 (h.nd y hy h2),?_,h.us,h.af⟩
 ·intro y hy h5
  obtain ⟨a1,a2,a3,a4⟩:=h.fr y hy h5
  exact ⟨(iV _ (dq (h.R.num y hy))).trans a1,a2,a3,fun p hp=>⟨(a4 p hp).1,fun j k hj=>by show aX (aP m.aa i x) j k≠p; rw [ng j k hj]; exact (a4 p hp).2 j k hj⟩⟩
 ·intro j hj z8 lx
  have tn:aU (aP m.aa i x) j≠0:=lx
  rw [iV j hj] at tn
  show gM (aP m.aa i x) j=(kW (aP m.aa i x) j:Int)+(gj m.ae j:Nat)+_
  have:=h.lk j hj z8 tn
  rw [if_neg (show ¬ (0:Int)=j by obtain ⟨a,b⟩:=hj; omega)] at this
  rw [hc,gu T.di hi hj]
  by_cases hh:j=i
  ·rw [if_pos hh,if_pos hh.symm,QP,← hh]; omega
  ·rw [if_neg hh,if_neg (fun q=>hh q.symm)]; exact this
 ·intro j hj lx
  have tn:aU (aP m.aa i x) j=0:=lx
  rw [iV j hj] at tn
  exact ⟨(h.Cp j hj tn).1,fun hh=>by rw [← hh,hk] at tn; exact absurd tn (by decide)⟩
 ·intro y hy h4
  obtain ⟨a,b⟩:=h.rd y hy h4
  exact ⟨a,b.imp_left (hO _).2⟩
def kg (m:Mem) (i:Int) (x:Nat) (r:Int) (b:Block):Mem :=
 ⟨aP (ca m.aa r b) i (gL (ai m.aa i) x r),m.an,m.ae++[⟨m.Next,1,i,x,r,0,eS,false,false,0,[]⟩],m.Next+1⟩
theorem Gd.grow (h:Gd e X m) (hp:fv m=true) {i:Int} (hi:I8 i) (JF:aU m.aa i≠0) {x:Nat} (hx:x<=1) (h0:aX m.aa i x=0) {r:Int} (hr:lz r) (hb:Ca m.aa r=true) (M0:∀ j k,I8 j->aX m.aa j k≠r)
  (hfF:∀ f∈m.ae,f.Kind=5->r∉f.ab) (Qn:∀ y∈m.ae,jQ y=true->y.Block≠r) {b:Block} (xi:bw b=true) (hbd:b.bZ=true↔aU m.aa i=2) (QJ:∀ s,b.ah.getD s aq=aq):Gd e X (kg m i x r b):=by
 obtain ⟨m1,m2,m3⟩:=cV.1 hp
 have T:=h.T'
 have hr0:r≠0:=by obtain ⟨a,b⟩:=hr; omega
 have hlen:(ai m.aa i).ax.length=2:=T.rK hi.1 hi.2
 have hD:∀ {P:aa->Prop},(P (kg m i x r b).aa↔P (aP (ca m.aa r b) i (gL (ai m.aa i) x r))):=Iff.rfl
 have TA:(ca m.aa r b).ad.length=8:=T.di
 have iV:∀ {j},I8 j->aU (kg m i x r b).aa j=aU m.aa j:=fun {j} hj=>by
  show aU (aP (ca m.aa r b) i _) j=_
  rw [dB TA hi hj]; split
  ·next hh=>rw [hh]; rfl
  ·rfl
 have VK:∀ {j},I8 j->gM (kg m i x r b).aa j=gM m.aa j:=fun {j} hj=>by
  show gM (aP (ca m.aa r b) i _) j=_
  rw [gu TA hi hj]; split
  ·next hh=>rw [hh]; rfl
  ·rfl
 have ng:∀ {j} (hj:I8 j) k,aX (kg m i x r b).aa j k=if j=i/\k=x then r else aX m.aa j k:=fun {j} hj k=>by
  show aX (aP (ca m.aa r b) i _) j k=_
  rw [eN TA hi hj]
  by_cases hh:j=i
  ·subst hh
   simp only [if_true,true_and,gL,cF,hlen]
   by_cases hk:k=x
   ·rw [if_pos ⟨hk,by omega⟩,if_pos hk]
   ·rw [if_neg (by omega),if_neg hk]; rfl
  ·rw [if_neg hh,if_neg (fun q=>hh q.1)]; rfl
 have QG:∀ {q},lz q->aH (kg m i x r b).aa q=if q=r then b else aH m.aa q:=fun {q} hq=>by
  show aH (ca m.aa r b) q=_
  exact ik T.db hr hq b
 have CZ:∀ {q} (hq:lz q) s,cA (kg m i x r b).aa q s=if q=r then aq else cA m.aa q s:=fun {q} hq s=>by
  simp only [cA]; rw [QG hq]; split
  ·exact QJ s
  ·rfl
 have hO:∀ {p},p≠0->(m9 (kg m i x r b).aa p↔m9 m.aa p\/(p=r/\aU m.aa i=2)):=fun {p} lG=>by
  constructor
  ·rintro ⟨j,k,hj,a,c⟩
   rw [iV hj] at a; rw [ng hj] at c
   by_cases hh:j=i/\k=x
   ·rw [if_pos hh] at c; rw [hh.1] at a; exact .inr ⟨c.symm,a⟩
   ·rw [if_neg hh] at c; exact .inl ⟨j,k,hj,a,c⟩
  ·rintro (⟨j,k,hj,a,c⟩ | ⟨rfl,a⟩)
   ·refine ⟨j,k,hj,by rw [iV hj]; exact a,?_⟩
    rw [ng hj,if_neg]
    ·exact c
    ·rintro ⟨rfl,rfl⟩; rw [h0] at c; exact lG c.symm
   ·exact ⟨i,x,hi,by rw [iV hi]; exact a,by rw [ng hi,if_pos ⟨rfl,rfl⟩]⟩
 have hnr:¬ m9 m.aa r:=fun ⟨j,k,hj,_,c⟩=>M0 j k hj c
 have h8:(kg m i x r b).aa.ad.length=8:=List.length_set.trans TA
 have hc:∀ {j},j≠0->kW (kg m i x r b).aa j=kW m.aa j:=fun {j} QO=>nN fun p hp=>by
  have lG:p≠0:=by obtain ⟨a,b⟩:=hp; omega
  simp only [jW]; rw [QG hp]
  by_cases hh:p=r
  ·rw [if_pos hh]
   have e1:qJ m.aa p=false:=by rw [← Bool.not_eq_true,jz T.di lG,hh]; exact hnr
   have e2:wk b j=0:=qq.2 fun s hs=>by
    obtain ⟨k,hk,rfl⟩:=List.mem_iff_getElem.1 hs
    have:=QJ k
    rw [fc _ _ hk] at this
    rw [this]; exact QO.symm
   rw [e1,e2]; cases qJ (kg m i x r b).aa p<;>rfl
  ·rw [if_neg hh]
   have:qJ (kg m i x r b).aa p=qJ m.aa p:=by
    rw [Bool.eq_iff_iff,jz h8 lG,jz T.di lG,hO lG]
    exact ⟨fun q=>q.resolve_right fun q=>hh q.1,.inl⟩
   rw [this]
 have hR:fy (kg m i x r b):=by
  have s1:=h.R.pI hr.1 hr.2 xi (fun y hy hk QL=>by
   exact absurd QL (Qn y hy (fT.2 (by have uy:y.Kind=2\/y.Kind=3:=(by simpa using hk); omega)))) (fun y hy hk QL=>absurd QL (Qn y hy (fT.2 (by have uy:y.Kind=4:=(by simpa using hk); omega))))
  have s2:=s1.m4 hi.1 hi.2 (x:=gL (ai m.aa i) x r) (oX (T.sF hi.1 hi.2) JF x (by obtain ⟨a,b⟩:=hr; omega) hr.2) (fun y hy vN he=>by
   have Fq:=h.R.ym y hy
   have Fz:=(ey (h.R.num y hy)).2.2.2.1
   have e1:((y.Kind==1)||(y.Kind==6))=true:=vN
   simp only [cC,e1,zE,zB,zD,beq_iff_eq,he] at Fq
   simp only [gL,cF,hlen]
   by_cases hh:y.Ptr.toNat=x
   ·rw [hh] at Fq
    have h2:(ai m.aa i).ax.getD x 0=0:=h0
    omega
   ·rw [if_neg (fun q=>hh q.1),beq_iff_eq]; exact Fq.2)
  have s3:=s2.put ⟨0,1,i,x,r,0,eS,false,false,0,[]⟩ (by
   simp only [bF,zB,ak]
   obtain ⟨a,c⟩:=hi; obtain ⟨a',c'⟩:=hr
   exact ⟨⟨m2,by omega⟩,⟨by decide,by decide⟩,⟨a,c⟩,⟨by omega,by omega⟩,⟨by omega,c'⟩,⟨by decide,by decide⟩,by decide,by omega⟩) rfl (by
   have e2:ai (aP (ca m.aa r b) i (gL (ai m.aa i) x r)) i=gL (ai m.aa i) x r:=by rw [nE TA hi hi,if_pos rfl]
   have e3:(gL (ai m.aa i) x r).ax.getD x 0=r:=by simp only [gL,cF,hlen]; rw [if_pos ⟨trivial,by omega⟩]
   show (bif ((1:Int)==1)||((1:Int)==6) then decide (0<r)&&((ai (aP (ca m.aa r b) i (gL (ai m.aa i) x r)) i).ax.getD (x:Int).toNat 0==r) else _)=true
   rw [e2,zC,e3]
   obtain ⟨a',c'⟩:=hr
   simp only [show ((1:Int)==1)=true from rfl,Bool.true_or,zE]
   rw [decide_eq_true (by omega),beq_self_eq_true (a:=r)]; rfl)
  have s4:fy (dz ⟨aP (ca m.aa r b) i (gL (ai m.aa i) x r),m.an,m.ae,m.Next⟩ ⟨0,1,i,x,r,0,eS,false,false,0,[]⟩).1:=s3
  rw [kB (m:=⟨aP (ca m.aa r b) i (gL (ai m.aa i) x r),m.an,m.ae,m.Next⟩) (cV.2 ⟨m1,m2,m3⟩)] at s4
  exact s4
 have hg:DG (kg m i x r b).aa:=by
  refine ⟨?_,?_,?_,?_,?_,?_,?_,?_,?_,?_⟩
  ·intro a k c l ha lH; rw [ng ha,ng lH]
   split
   ·next q1 =>
     split
     ·next q2=>intro _ _; exact ⟨q1.1.trans q2.1.symm,q1.2.trans q2.2.symm⟩
     ·intro q _; exact absurd q.symm (M0 c l lH)
   ·split
    ·intro q _; exact absurd q (M0 a k ha)
    ·exact h.g.one a k c l ha lH
  ·intro a k ha; rw [ng ha]; split
   ·intro _; exact hb
   ·exact h.g.bm a k ha
  ·intro a ha; rw [iV ha]; exact h.g.Nb a ha
  ·intro a k ha; rw [ng ha,iV ha]; split
   ·next q=>intro _; rw [QG hr,if_pos rfl,q.1]; exact hbd
   ·intro q; rw [QG (T.gX ha q),if_neg (M0 a k ha)]; exact h.g.pk a k ha q
  ·intro p s hB ho; rw [CZ hB]; split
   ·intro q; exact absurd rfl q
   ·next q =>
    have lG:p≠0:=by obtain ⟨a,b⟩:=hB; omega
    intro hz
    rw [iV (T.CO hB hz)]
    exact h.g.nm p s hB (((hO lG).1 ho).resolve_right fun z=>q z.1) hz
  ·intro a k s ha Ve pC QQ; rw [iV ha] at pC; rw [hc (by obtain ⟨a,b⟩:=ha; omega)] at QQ; rw [ng ha]; split
   ·intro _; rw [CZ hr,if_pos rfl]; rfl
   ·intro q; rw [CZ (T.gX ha q),if_neg (M0 a k ha)]; exact h.g.ne a k s ha Ve pC QQ q
  ·intro j hj; rw [iV hj,VK hj]; exact h.g.dl j hj
  ·rw [iV ⟨by decide,by decide⟩]; exact h.g.rt
  ·intro a k l s t ha pC; rw [iV ha] at pC; rw [ng ha,ng ha]
   split
   ·intro _ _; rw [CZ hr,if_pos rfl]; intro q; exact absurd rfl q
   ·split
    ·intro q _; rw [CZ hr,if_pos rfl,CZ (T.gX ha q),if_neg (M0 a k ha)]
     intro q1 q2
     rcases T.vQ (T.gX ha q) s with z | z
     ·rw [z] at q1; exact absurd rfl q1
     ·exact absurd q2 (fL z.2.2.1)
    ·intro q q'; rw [CZ (T.gX ha q),if_neg (M0 a k ha),CZ (T.gX ha q'),if_neg (M0 a l ha)]
     exact h.g.un a k l s t ha pC q q'
  ·obtain ⟨rr,r1,r2⟩:=h.g.rk
   refine ⟨rr,r1,fun a k s ha pC=> ?_⟩
   rw [iV ha] at pC; rw [ng ha]; split
   ·intro _; rw [CZ hr,if_pos rfl]; intro q; exact absurd rfl q
   ·intro q; rw [CZ (T.gX ha q),if_neg (M0 a k ha)]
    intro hz; rw [iV (T.CO (T.gX ha q) hz)]
    exact r2 a k s ha pC q hz
 have eE:∀ {y},y∈(kg m i x r b).ae->y∈m.ae\/y=⟨m.Next,1,i,x,r,0,eS,false,false,0,[]⟩:=fun {y} hy=>by
  rcases zH.1 hy with hy | hy
  ·exact .inl hy
  ·exact .inr (zS.1 hy)
 have vM:∀ j,gj (kg m i x r b).ae j=gj m.ae j:=fun j=>by
  show gj (m.ae++[_]) j=_
  simp [gj,List.countP_append]
 refine ⟨hR,?_,hg,?_,?_,?_,?_,?_,?_,?_,?_,?_⟩
 ·intro y hy
  rcases eE hy with hy | rfl
  ·exact h.sz y hy
  ·exact ⟨by show eS.size<=cO; decide,by show ([]:List Int).length<=cO; decide⟩
 ·intro y hy h5
  rcases eE hy with hy | rfl
  ·obtain ⟨a1,a2,a3,a4⟩:=h.fr y hy h5
   refine ⟨(iV (dq (h.R.num y hy))).trans a1,a2,a3,fun p hp=>⟨(a4 p hp).1,fun j l hj=> ?_⟩⟩
   rw [ng hj]; split
   ·intro q; exact hfF y hy h5 (q▸hp)
   ·exact (a4 p hp).2 j l hj
  ·exact absurd h5 (by show ¬ (1:Int)=5; decide)
 ·show (m.ae++[_]).Pairwise _
  rw [List.pairwise_append]
  refine ⟨h.Ed,List.pairwise_singleton _ _,?_⟩
  intro a _ c hc _ h5
  rw [zS] at hc; subst hc
  exact absurd h5 (by show ¬ (1:Int)=5; decide)
 ·intro j hj z8; rw [iV hj,VK hj,vM,hc (by obtain ⟨a,b⟩:=hj; omega)]; exact h.lk j hj z8
 ·intro j hj; rw [iV hj,vM]; exact h.Cp j hj
 ·rw [vM]; exact h.rt
 ·intro y hy h2
  rcases eE hy with hy | rfl
  ·have:=(pS (h.R.ym y hy) h2).1
   exact (hO (by omega)).2 (.inl (h.nd y hy h2))
  ·exact absurd h2 (by show ¬ ((1:Int)=2\/(1:Int)=3); omega)
 ·intro y hy h4
  rcases eE hy with hy | rfl
  ·obtain ⟨a,c⟩:=h.rd y hy h4
   have hb:=(pU (h.R.ym y hy) h4).1
   have hn:=(ey (h.R.num y hy)).2.2.2.2.1
   refine ⟨?_,?_⟩
   ·rw [CZ ⟨by omega,hn.2⟩,if_neg (Qn y hy (by rw [fT]; omega))]; exact a
   ·rcases c with c | c | ⟨f,hf,Cr,FK⟩
    ·exact .inl ((hO (by omega)).2 (.inl c))
    ·exact .inr (.inl c)
    ·exact .inr (.inr ⟨f,List.mem_append_left _ hf,Cr,FK⟩)
  ·exact absurd h4 (by show ¬ (1:Int)=4; decide)
 ·show (m.ae++[_]).Pairwise _
  rw [List.pairwise_append]
  refine ⟨h.us,List.pairwise_singleton _ _,?_⟩
  intro a ha c hc _ hn
  rw [zS] at hc; subst hc
  exact absurd hn (by show ¬ jQ ⟨m.Next,1,i,x,r,0,eS,false,false,0,_⟩=true; rw [fT]; simp)
 ·intro y hy h4 hz
  rcases eE hy with hy | rfl
  ·obtain ⟨z,hz,a,c⟩:=h.af y hy h4 hz
   exact ⟨z,List.mem_append_left _ hz,a,c⟩
  ·exact absurd h4 (by show ¬ (1:Int)=4; decide)
theorem Gd.text (h:Gd e [] m) {w p:Int} {k:Nat} (hw:I8 w) (TP:aU m.aa w=1) (HU:aX m.aa w k=p) (lG:p≠0) {s:ByteArray} (hs:s.size<=16):Gd e [] ⟨ca m.aa p ⟨false,[],s⟩,m.an,m.ae,m.Next⟩:=by
 have T:=h.T'
 have hp:lz p:=by rw [← HU]; exact T.gX hw (by rw [HU]; exact lG)
 have Cj:¬ m9 m.aa p:=fun ⟨j,l,hj,a,c⟩=>by
  have:=(h.g.one j l w k hj hw (c.trans HU.symm) (by rw [c]; exact lG)).1
  rw [this,TP] at a; exact absurd a (by decide)
 have HK:(aH m.aa p).bZ=false:=by
  have:=h.g.pk w k hw (by rw [HU]; exact lG)
  rw [HU,TP] at this
  cases hd:(aH m.aa p).bZ with
  | false=>rfl
  | true=>exact absurd (this.1 hd) (by decide)
 have QG:∀ {q},lz q->aH (ca m.aa p ⟨false,[],s⟩) q=if q=p then ⟨false,[],s⟩ else aH m.aa q:=fun hq=>ik T.db hp hq _
 have CZ:∀ {q} (hq:lz q) t,cA (ca m.aa p ⟨false,[],s⟩) q t=cA m.aa q t:=fun {q} hq t=>by
  simp only [cA]; rw [QG hq]; split
  ·next hh =>
   subst hh
   rcases T.slot hq t with z | z
   ·exact z.symm
   ·rw [HK] at z; exact absurd z.2.1 (by decide)
  ·rfl
 have hc:∀ j,kW (ca m.aa p ⟨false,[],s⟩) j=kW m.aa j:=fun j=>nN fun q hq=>by
  have Wx:q≠0:=by obtain ⟨a,b⟩:=hq; omega
  have e1:qJ (ca m.aa p ⟨false,[],s⟩) q=qJ m.aa q:=rfl
  simp only [jW,e1]; rw [QG hq]; split
  ·next hh =>
   subst hh
   have:qJ m.aa q=false:=by rw [← Bool.not_eq_true,jz T.di Wx]; exact Cj
   rw [this]; rfl
  ·rfl
 have Fz:∀ y∈m.ae,jQ y=true->y.Block≠p:=fun y hy hn hb=>by
  rw [fT] at hn
  rcases hn with z | z | z
  ·exact Cj (hb▸h.nd y hy (.inl z))
  ·exact Cj (hb▸h.nd y hy (.inr z))
  ·have:=(pU (h.R.ym y hy) z).2.1
   rw [hb,HK] at this; exact absurd this (by decide)
 have hR:=h.R.pI hp.1 hp.2 (b:=⟨false,[],s⟩) (by simp only [bw,zF]; simp [hs]) (fun y hy hk QL=>absurd QL (Fz y hy (fT.2 (by have uy:y.Kind=2\/y.Kind=3:=(by simpa using hk); omega))))
  (fun y hy hk QL=>absurd QL (Fz y hy (fT.2 (by have uy:y.Kind=4:=(by simpa using hk); omega))))
 have hg:DG (ca m.aa p ⟨false,[],s⟩):=by
  refine ⟨h.g.one,h.g.bm,h.g.Nb,?_,?_,?_,h.g.dl,h.g.rt,?_,?_⟩
  ·intro i l hi hz
   have FG:aX m.aa i l≠0:=hz
   show (aH (ca m.aa p ⟨false,[],s⟩) (aX m.aa i l)).bZ=true↔aU m.aa i=2
   rw [QG (T.gX hi FG)]; split
   ·next hh =>
    have:=(h.g.one i l w k hi hw (hh.trans HU.symm) FG).1
    rw [this,TP]; simp
   ·exact h.g.pk i l hi FG
  ·intro q t hq ho; rw [CZ hq]; exact h.g.nm q t hq ho
  ·intro i l t hi zr hk nv hz; rw [hc] at nv
   have FG:aX m.aa i l≠0:=hz
   show (cA (ca m.aa p ⟨false,[],s⟩) (aX m.aa i l) t).Ino=0
   rw [CZ (T.gX hi FG)]; exact h.g.ne i l t hi zr hk nv FG
  ·intro i l l' t t' hi hk hz FG
   have q1:aX m.aa i l≠0:=hz
   have q2:aX m.aa i l'≠0:=FG
   show (cA (ca m.aa p ⟨false,[],s⟩) (aX m.aa i l) t).Ino≠0->(cA (ca m.aa p ⟨false,[],s⟩) (aX m.aa i l) t).Name=(cA (ca m.aa p ⟨false,[],s⟩) (aX m.aa i l') t').Name->_
   rw [CZ (T.gX hi q1),CZ (T.gX hi q2)]; exact h.g.un i l l' t t' hi hk q1 q2
  ·obtain ⟨rr,r1,r2⟩:=h.g.rk
   refine ⟨rr,r1,fun i l t hi hk hz=> ?_⟩
   have q1:aX m.aa i l≠0:=hz
   show (cA (ca m.aa p ⟨false,[],s⟩) (aX m.aa i l) t).Ino≠0->aU m.aa (cA (ca m.aa p ⟨false,[],s⟩) (aX m.aa i l) t).Ino=2->rr (cA (ca m.aa p ⟨false,[],s⟩) (aX m.aa i l) t).Ino=rr i+1/\rr i<4
   rw [CZ (T.gX hi q1)]; exact r2 i l t hi hk q1
 refine ⟨hR,h.sz,hg,h.fr,h.Ed,?_,h.Cp,h.rt,h.nd,?_,h.us,h.af⟩
 ·intro j hj z8 lx
  show gM m.aa j=(kW (ca m.aa p ⟨false,[],s⟩) j:Int)+(gj m.ae j:Nat)+_
  rw [hc]; exact h.lk j hj z8 lx
 ·intro y hy h4
  obtain ⟨a,c⟩:=h.rd y hy h4
  have hb:=(pU (h.R.ym y hy) h4).1
  have hn:=(ey (h.R.num y hy)).2.2.2.2.1
  refine ⟨?_,c⟩
  show cA (ca m.aa p ⟨false,[],s⟩) y.Block y.Slot.toNat=aq
  rw [CZ ⟨by omega,hn.2⟩]; exact a
theorem Gd.UO (h:Gd e X m) (hp:fv m=true) {p s j:Int} (hB:lz p) (ho:m9 m.aa p) (s0:0<=s) (s1:s<=3) (hj:I8 j) (hs:(cA m.aa p s.toNat).Ino=j) (hf:∀ x∈m.ae,jQ x=true->x.Block=p->x.Slot≠s) :
  Gd e X ⟨m.aa,m.an,m.ae++[⟨m.Next,2,j,0,p,s,eS,false,false,0,[]⟩],m.Next+1⟩:=by
 obtain ⟨m1,m2,m3⟩:=cV.1 hp
 obtain ⟨p1,p2⟩:=hB
 have hd:=h.g.u4 ho (by omega)
 have hR:=h.R.put ⟨0,2,j,0,p,s,eS,false,false,0,[]⟩ (by
  simp only [bF,zB,ak]
  exact ⟨⟨m2,by omega⟩,⟨by decide,by decide⟩,hj,⟨by decide,by decide⟩,⟨by omega,p2⟩,⟨s0,s1⟩,by decide,by omega⟩) rfl (by
  have Fu:((aH m.aa p).ah.getD s.toNat aq).Ino=j:=hs
  simp only [cC,show ((2:Int)==1)=false from rfl,show ((2:Int)==6)=false from rfl,show ((2:Int)==2)=true from rfl,Bool.or_false,Bool.true_or,zF,zE,hd,Fu,beq_self_eq_true,Bool.and_true,zD]
  omega)
 rw [kB hp] at hR
 have eE:∀ {y},y∈m.ae++[(⟨m.Next,2,j,0,p,s,eS,false,false,0,[]⟩:bO)]->y∈m.ae\/y=⟨m.Next,2,j,0,p,s,eS,false,false,0,[]⟩:=fun {y} hy=>by
  rcases zH.1 hy with hy | hy
  ·exact .inl hy
  ·exact .inr (zS.1 hy)
 have vM:∀ j',gj (m.ae++[(⟨m.Next,2,j,0,p,s,eS,false,false,0,[]⟩:bO)]) j'=gj m.ae j':=fun j'=>by
  simp [gj,List.countP_append]
 refine ⟨hR,?_,h.g,?_,?_,?_,?_,?_,?_,?_,?_,?_⟩
 ·intro y hy
  rcases eE hy with hy | rfl
  ·exact h.sz y hy
  ·exact ⟨by show eS.size<=cO; decide,by show ([]:List Int).length<=cO; decide⟩
 ·intro y hy h5
  rcases eE hy with hy | rfl
  ·exact h.fr y hy h5
  ·exact absurd h5 (by show ¬ (2:Int)=5; decide)
 ·rw [List.pairwise_append]
  refine ⟨h.Ed,List.pairwise_singleton _ _,?_⟩
  intro a _ c hc _ h5
  rw [zS] at hc; subst hc
  exact absurd h5 (by show ¬ (2:Int)=5; decide)
 ·intro j'; rw [vM]; exact h.lk j'
 ·intro j'; rw [vM]; exact h.Cp j'
 ·rw [vM]; exact h.rt
 ·intro y hy h2
  rcases eE hy with hy | rfl
  ·exact h.nd y hy h2
  ·exact ho
 ·intro y hy h4
  rcases eE hy with hy | rfl
  ·obtain ⟨a,c⟩:=h.rd y hy h4
   refine ⟨a,?_⟩
   rcases c with c | c | ⟨f,hf,Cr,FK⟩
   ·exact .inl c
   ·exact .inr (.inl c)
   ·exact .inr (.inr ⟨f,List.mem_append_left _ hf,Cr,FK⟩)
  ·exact absurd h4 (by show ¬ (2:Int)=4; decide)
 ·rw [List.pairwise_append]
  refine ⟨h.us,List.pairwise_singleton _ _,?_⟩
  intro a ha c hc hn _ hb
  rw [zS] at hc; subst hc
  exact hf a ha hn hb
 ·intro y hy h4 hz
  rcases eE hy with hy | rfl
  ·obtain ⟨z,hz,a,c⟩:=h.af y hy h4 hz
   exact ⟨z,List.mem_append_left _ hz,a,c⟩
  ·exact absurd h4 (by show ¬ (2:Int)=4; decide)
structure Ta (m:Mem) (r:Int):Prop where
 b:lz r
 p:∀ j k,I8 j->aX m.aa j k≠r
 f:∀ f∈m.ae,f.Kind=5->r∉f.ab
 n:∀ y∈m.ae,jQ y=true->y.Block≠r
theorem Gd.fresh (h:Gd e [] m) {r:Int} (hr:lz r) (hb:Ca m.aa r=false):Ta m r:=by
 have hr0:r≠0:=by obtain ⟨a,b⟩:=hr; omega
 have h1:∀ j k,I8 j->aX m.aa j k≠r:=fun j k hj hh=>by
  have:=h.g.bm j k hj (by rw [hh]; exact hr0)
  rw [hh,hb] at this; cases this
 have h2:∀ f∈m.ae,f.Kind=5->r∉f.ab:=fun f hf h5 hh=>by
  have:=((h.fr f hf h5).2.2.2 r hh).1
  rw [hb] at this; cases this
 have h3:¬ m9 m.aa r:=fun ⟨j,k,hj,_,c⟩=>h1 j k hj c
 refine ⟨hr,h1,h2,fun y hy hn hh=> ?_⟩
 rw [fT] at hn
 rcases hn with z | z | z
 ·exact h3 (hh▸h.nd y hy (.inl z))
 ·exact h3 (hh▸h.nd y hy (.inr z))
 ·rcases (h.rd y hy z).2 with c | c | ⟨f,hf,Cr,c⟩
  ·exact h3 (hh▸c)
  ·cases c
  ·exact h2 f hf Cr (hh▸c)
theorem Gd.take (h:Gd e [] m) (hr:(aW m).2≠0):Gd e [] (aW m).1/\Ta (aW m).1 (aW m).2/\Ca (aW m).1.aa (aW m).2=true:=by
 have T:=h.T'
 revert hr
 simp only [aW]
 cases hz:firstFree m.aa.au.ab==0 with
 | true=>intro hr; exact absurd rfl hr
 | false =>
  intro _
  simp only [zF,ql]
  rcases n7 m.aa.au.ab with ⟨h1,_⟩ | ⟨j,h1,h2,h3,_⟩
  ·rw [h1] at hz; cases hz
  ·have hb:=T.bb
   rw [hb] at h2
   have hj:((firstFree m.aa.au.ab)-1).toNat=j:=by omega
   have hB:lz (firstFree m.aa.au.ab):=⟨by omega,by omega⟩
   have HA:Ca m.aa (firstFree m.aa.au.ab)=false:=by simp only [Ca,hj]; exact h3
   have hF:=h.fresh hB HA
   have hg:=h.bits (bb:=m.aa.au.ab.set (firstFree m.aa.au.ab-1).toNat true) (bi:=m.aa.au.bB) (List.length_set.trans hb) T.bi (fun p hp hh=>by
    rw [cF]; split
    ·rfl
    ·exact hh) (fun _ _ hh=>hh)
   refine ⟨hg.bG ((cK _ _).trans h.R.dy),⟨hF.b,hF.p,hF.f,hF.n⟩,?_⟩
   simp only [Ca,cF]
   rw [if_pos ⟨trivial,by omega⟩]
theorem sr (m:Mem):(aW m).1.ae=m.ae/\(aW m).1.Next=m.Next/\(aW m).1.aa.ad=m.aa.ad/\(aW m).1.aa.ab=m.aa.ab:=by
 simp only [aW]
 cases firstFree m.aa.au.ab==0<;>simp [ql]
theorem yk {α S:Type} {P:S->Prop} {g:S->α->S}:∀ (l:List α) (a:S),P a->(∀ a,∀ x∈l,P a->P (g a x))->P (l.foldl g a)
 | [],a,h,_=>h
 | x::l,a,h,hs=>yk l _ (hs a x zO h) fun a y hy=>hs a y (zJ _ hy)
theorem LW (m:Mem) (p:Int) (acc:Int×Int):lD m p acc=acc\/(lD m p acc).1=p:=by
 simp only [lD]
 cases within p 1 m.aa.ab.length&&(aH m.aa p).bZ with
 | false=>exact .inl rfl
 | true =>
  simp only [zE]
  refine yk (P:=fun a=>a=acc\/a.1=p) _ _ (.inl rfl) fun a x _ ha=> ?_
  cases k7 m p x with
  | true=>exact .inr rfl
  | false=>exact ha
theorem Me (m:Mem) (l:List Int):nu m l=(0,0)\/∃ k,k<l.length/\l.getD k 0=(nu m l).1:=by
 simp only [nu]
 refine yk (P:=fun a=>a=(0,0)\/∃ k,k<l.length/\l.getD k 0=a.1) _ _ (.inl rfl) fun a x hx ha=> ?_
 have zm:x<l.length:=by simp [List.mem_range'] at hx; omega
 rcases LW m (l.getD x 0) a with h | h
 ·rw [h]; exact ha
 ·exact .inr ⟨x,zm,h.symm⟩
theorem Il {p:Int} {s:Nat}:k7 m p s=true↔cA m.aa p s=aq/\fQ m p s=0:=by
 simp only [k7,zB,beq_iff_eq,cA]
 generalize (aH m.aa p).ah.getD s aq=x
 obtain ⟨n,i⟩:=x
 simp only [FT,Slot.mk.injEq]
structure LC (m:Mem) (w:Int) (nm:ByteArray) (j:Int):Prop where
 w8:I8 w
 kw:aU m.aa w=2
 nmk:bH nm=true
 j8:I8 j
 cw:w=1\/kW m.aa w≠0
 no:∀ l t,aX m.aa w l≠0->(cA m.aa (aX m.aa w l) t).Name≠nm
 dr:aU m.aa j=2->(∀ k,aX m.aa j k=0)/\kW m.aa j=0/\∀ r,RK m.aa r->r w<4
def Ji (id j p s:Int):bO:=⟨id,2,j,0,p,s,eS,false,false,0,[]⟩
theorem Gd.set {j:Int} (h:Gd j X m) (hp:fv m=true) {w p s:Int} {nm:ByteArray} (hI:LC m w nm j) {k:Nat} (Vh:aX m.aa w k=p) (hB:lz p) (s0:0<=s) (s1:s<=3) (h0:cA m.aa p s.toNat=aq) (hf:∀ y∈m.ae,jQ y=true->y.Block=p->y.Slot≠s) :
  Gd 0 X (setName m p s nm j).1/\(setName m p s nm j).2=m.Next/\(setName m p s nm j).1=⟨bI m.aa p s.toNat ⟨nm,j⟩,bP 0 (bP (aE p) m.an),m.ae++[Ji m.Next j p s],m.Next+1⟩:=by
 have T:=h.T'
 have lG:p≠0:=by obtain ⟨a,b⟩:=hB; omega
 have ho:m9 m.aa p:=⟨w,k,hI.w8,hI.kw,Vh⟩
 have hd:=h.g.u4 ho lG
 have hg:=h.named hB hI.w8 hI.kw Vh s0 s1 h0 hI.nmk hI.j8 hf hI.cw hI.no hI.dr
 have YO:=hg.bG (y:=bP 0 (bP (aE p) m.an)) ((cK _ _).trans ((cK _ _).trans h.R.dy))
 have hs:setName m p s nm j=(⟨bI m.aa p s.toNat ⟨nm,j⟩,bP 0 (bP (aE p) m.an),m.ae++[Ji m.Next j p s],m.Next+1⟩,m.Next):=by
  have:=kB (m:=⟨bI m.aa p s.toNat ⟨nm,j⟩,bP 0 (bP (aE p) m.an),m.ae,m.Next⟩) hp ⟨0,2,j,0,p,s,eS,false,false,0,[]⟩
  exact this
 rw [hs]
 refine ⟨?_,rfl,rfl⟩
 refine YO.UO hp hB ho s0 s1 hI.j8 ?_ hf
 show (cA (bI m.aa p s.toNat ⟨nm,j⟩) p s.toNat).Ino=j
 rw [kP T hB hd (by omega) _ hB,if_pos ⟨rfl,rfl⟩]
theorem E6:∀ {l:List Int},bT l<l.length->l.getD (bT l) 0=0:=by
 intro l
 induction l with
 | nil=>intro h; cases h
 | cons a l ih =>
  simp only [bT,List.takeWhile_cons]
  cases ha:a==0 with
  | true=>intro _; simpa using ha
  | false =>
   simp only [zN,if_true,zR]
   intro h
   exact ih (by simp only [bT]; omega)
structure Put (m:Mem) (j:Int) (t:Mem×Int):Prop where
 g:Gd 0 [] t.1
 len:t.1.ae.length<=m.ae.length+2
 nx:t.1.Next<=m.Next+2
 dep:∃ p s,Ji t.2 j p s∈t.1.ae/\0<=s/\(m9 m.aa p->cA m.aa p s.toNat=aq)
 own:∀ p,p≠0->m9 m.aa p->m9 t.1.aa p
 same:∀ q u,lz q->m9 m.aa q->(cA m.aa q u).Ino≠0->cA t.1.aa q u=cA m.aa q u
 kind:∀ i,I8 i->aU t.1.aa i=aU m.aa i
theorem qF {j:Int} (h:Gd j [] m) (hl:m.ae.length<=38) (hn:m.Next<=99998) {w:Int} {nm:ByteArray} (hI:LC m w nm j):(dK m w nm j).2=0\/Put m j (dK m w nm j):=by
 have T:=h.T'
 have uU:=h.R.n1
 have Hy:=hI.w8
 have XR:1<=w/\w<=8:=Hy
 have hlen:(ai m.aa w).ax.length=2:=T.rK XR.1 XR.2
 simp only [dK]
 cases hz:(nu m (ai m.aa w).ax).1==0 with
 | false =>
  simp only [zF]
  have h1:=(Aq m (ai m.aa w).ax).resolve_left (by intro q; rw [q] at hz; cases hz)
  obtain ⟨k,hk,Vh⟩:=(Me m (ai m.aa w).ax).resolve_left (by intro q; rw [q] at hz; cases hz)
  generalize (nu m (ai m.aa w).ax).1=p at *
  generalize (nu m (ai m.aa w).ax).2=s at *
  have hB:lz p:=⟨h1.p1,by have:=h1.p2; rw [T.db] at this; exact this⟩
  have s0:=h1.s0
  have s1:=h1.s1
  rw [dh (T.nz hB.1 hB.2) h1.dir] at s1
  obtain ⟨f1,f2⟩:=Il.1 h1.free
  rw [Int.toNat_of_nonneg s0] at f2
  have hf:∀ y∈m.ae,jQ y=true->y.Block=p->y.Slot≠s:=by
   rcases vi h.R p s with ⟨_,q⟩ | ⟨y,hy,_,_,_,q,_⟩
   ·exact q
   ·have:=(ey (h.R.num y hy)).1; omega
  have ho:m9 m.aa p:=⟨w,k,Hy,hI.kw,Vh⟩
  obtain ⟨a,b,c⟩:=h.set (cV.2 ⟨by omega,uU,by omega⟩) hI Vh hB s0 (by omega) f1 hf
  refine .inr ⟨a,?_,?_,⟨p,s,?_,s0,fun _=>f1⟩,fun q _ hq=> ?_,fun q u hq Wm cL=> ?_,fun i hi=> ?_⟩
  ·rw [c]; show (m.ae++[_]).length<=_; rw [zK,zL]; omega
  ·rw [c]; show m.Next+1<=_; omega
  ·rw [c,b]; exact List.mem_append_right _ (zS.2 rfl)
  ·rw [c]; exact hq
  ·rw [c]
   show cA (bI m.aa p s.toNat ⟨nm,j⟩) q u=_
   rw [kP T hB h1.dir (by omega) _ hq,if_neg]
   rintro ⟨rfl,rfl⟩; rw [f1] at cL; exact cL rfl
  ·rw [c]; rfl
 | true =>
  simp only [zE]
  cases XV:bT (ai m.aa w).ax==(ai m.aa w).ax.length with
  | true=>exact .inl rfl
  | false =>
  simp only [zF]
  cases ht:(aW m).2==0 with
  | true=>exact .inl rfl
  | false =>
  simp only [zF]
  have hx:bT (ai m.aa w).ax<(ai m.aa w).ax.length:=by
   have:=qH (ai m.aa w).ax
   have h2:bT (ai m.aa w).ax≠(ai m.aa w).ax.length:=by simpa using XV
   omega
  have Uc:=E6 hx
  rw [hlen] at hx
  generalize bT (ai m.aa w).ax=x at *
  obtain ⟨g1,F,HA⟩:=h.take (by simpa using ht)
  obtain ⟨t1,t2,t3,t4⟩:=sr m
  generalize aW m=t at *
  have e1:∀ i,ai t.1.aa i=ai m.aa i:=fun i=>by simp only [ai,t3]
  have ek:∀ i,aU t.1.aa i=aU m.aa i:=fun i=>by simp only [aU,e1]
  have ep:∀ i k,aX t.1.aa i k=aX m.aa i k:=fun i k=>by simp only [aX,e1]
  have es:∀ q u,cA t.1.aa q u=cA m.aa q u:=fun q u=>by simp only [cA,aH,t4]
  have eo:∀ p,m9 t.1.aa p↔m9 m.aa p:=n6 (fun i _=>ek i) (fun i k _=>ep i k)
  have T1:=g1.T'
  have ec:∀ i,kW t.1.aa i=kW m.aa i:=oi T.di T1.di (fun i _=>ek i) (fun i k _=>ep i k) t4
  have zp:=g1.grow (cV.2 ⟨by rw [t1]; omega,by rw [t2]; omega,by rw [t2]; omega⟩) (i:=w) Hy (by rw [ek,hI.kw]; decide) (x:=x) (by omega) (by rw [ep]; exact Uc) F.b HA F.p F.f F.n (b:=⟨true,List.replicate 4 aq,eS⟩) (by decide) (by rw [ek,hI.kw]; simp) (fun s=>by
   match s with
   | 0=>rfl
   | 1=>rfl
   | 2=>rfl
   | 3=>rfl
   | s+4=>rfl)
  have HI:dm t.1 w x t.2=⟨(kg t.1 w x t.2 ⟨true,List.replicate 4 aq,eS⟩).aa,bP (aK w) (bP (aE t.2) t.1.an),(kg t.1 w x t.2 ⟨true,List.replicate 4 aq,eS⟩).ae,t.1.Next+1⟩:=by
   have:=kB (m:=⟨aP (ca t.1.aa t.2 ⟨true,List.replicate 4 aq,eS⟩) w (gL (ai t.1.aa w) x t.2),bP (aK w) (bP (aE t.2) t.1.an),t.1.ae,t.1.Next⟩) (cV.2 ⟨by rw [t1]; omega,by rw [t2]; omega,by rw [t2]; omega⟩) ⟨0,1,w,x,t.2,0,eS,false,false,0,[]⟩
   simp only [dm]; rw [this]; rfl
  have YO:=zp.bG (y:=bP (aK w) (bP (aE t.2) t.1.an)) ((cK _ _).trans ((cK _ _).trans g1.R.dy))
  have S3:Gd j [] (dm t.1 w x t.2):=by rw [HI]; exact YO
  have TA:(ca t.1.aa t.2 ⟨true,List.replicate 4 aq,eS⟩).ad.length=8:=T1.di
  have gk:∀ i,I8 i->aU (dm t.1 w x t.2).aa i=aU m.aa i:=fun i hi=>by
   rw [HI]
   show aU (aP (ca t.1.aa t.2 _) w _) i=_
   rw [dB TA Hy hi]; split
   ·next q=>rw [q]; exact ek w
   ·exact ek i
  have gp:∀ i k,I8 i->aX (dm t.1 w x t.2).aa i k=if i=w/\k=x then t.2 else aX m.aa i k:=fun i k hi=>by
   rw [HI]
   show aX (aP (ca t.1.aa t.2 _) w _) i k=_
   rw [eN TA Hy hi]
   by_cases hh:i=w
   ·subst hh
    have MF:(ai t.1.aa i).ax.length=2:=by rw [e1]; exact hlen
    simp only [if_true,true_and,gL,cF,MF]
    by_cases hk:k=x
    ·rw [if_pos ⟨hk,by omega⟩,if_pos hk]
    ·rw [if_neg (by omega),if_neg hk]; exact ep i k
   ·rw [if_neg hh,if_neg (fun q=>hh q.1)]; exact ep i k
  have gs:∀ q u,lz q->cA (dm t.1 w x t.2).aa q u=if q=t.2 then aq else cA m.aa q u:=fun q u hq=>by
   rw [HI]
   show cA (ca t.1.aa t.2 ⟨true,List.replicate 4 aq,eS⟩) q u=_
   simp only [cA,ik T1.db F.b hq]
   split
   ·match u with
    | 0=>rfl
    | 1=>rfl
    | 2=>rfl
    | 3=>rfl
    | u+4=>rfl
   ·exact es q u
  have hnO:¬ m9 m.aa t.2:=fun ⟨a,k,ha,_,hc⟩=>F.p a k ha (by rw [ep]; exact hc)
  have go:∀ p,p≠0->m9 m.aa p->m9 (dm t.1 w x t.2).aa p:=fun p lG ⟨a,k,ha,hb,hc⟩=>by
   refine ⟨a,k,ha,by rw [gk a ha]; exact hb,?_⟩
   rw [gp a k ha,if_neg]
   ·exact hc
   ·rintro ⟨rfl,rfl⟩
    have:aX m.aa a k=0:=Uc
    rw [this] at hc; exact lG hc.symm
  have gc:∀ i,i≠0->(kW (dm t.1 w x t.2).aa i=0↔kW m.aa i=0):=fun i JD=>by
   rw [S3.T'.FV JD,T.FV JD]
   constructor
   ·intro q p s hp ho
    have:=q p s hp (go p (by obtain ⟨a,b⟩:=hp; omega) ho)
    rw [gs p s hp,if_neg (show ¬ p=t.2 from fun z=>hnO (z▸ho))] at this; exact this
   ·rintro q p s hp ⟨a,k,ha,hb,hc⟩
    rw [gs p s hp]; split
    ·exact JD.symm
    ·next cL =>
     rw [gk a ha] at hb; rw [gp a k ha] at hc
     split at hc
     ·exact absurd hc.symm cL
     ·exact q p s hp ⟨a,k,ha,hb,hc⟩
  have Tk:LC (dm t.1 w x t.2) w nm j:=by
   refine ⟨Hy,by rw [gk w Hy]; exact hI.kw,hI.nmk,hI.j8,?_,?_,?_⟩
   ·rcases hI.cw with q | q
    ·exact .inl q
    ·exact .inr fun z=>q ((gc w (by omega)).1 z)
   ·intro l u; rw [gp w l Hy]; split
    ·intro _; rw [gs _ _ F.b,if_pos rfl]; exact fun q=>fL hI.nmk q.symm
    ·intro q
     rw [gs _ _ (T.gX Hy q),if_neg (fun z=>F.p w l Hy (by rw [ep]; exact z))]; exact hI.no l u q
   ·intro q; rw [gk j hI.j8] at q
    obtain ⟨q1,q2,q3⟩:=hI.dr q
    have hjw:j≠w\/j=w:=(Decidable.em _).symm
    have adg:j≠w:=fun z=>by
     subst z
     have nv:=hI.cw
     rcases nv with z | z
     ·exact h.rt.2 z
     ·exact z q2
    refine ⟨fun k=>by rw [gp j k hI.j8,if_neg (fun z=>adg z.1)]; exact q1 k,(gc j (by have:=hI.j8; obtain ⟨a,b⟩:=this; omega)).2 q2,fun r hr=>q3 r ⟨hr.1,fun a k s ha hb hc hd he=> ?_⟩⟩
    have:=hr.2 a k s ha (by rw [gk a ha]; exact hb)
    have cL:¬ (a=w/\k=x):=by rintro ⟨rfl,rfl⟩; exact hc Uc
    rw [gp a k ha,if_neg cL,gs _ _ (T.gX ha hc),if_neg (fun z=>F.p a k ha (by rw [ep]; exact z))] at this
    exact this hc hd (by rw [gk _ (T.CO (T.gX ha hc) hd)]; exact he)
  have gn:(dm t.1 w x t.2).Next=m.Next+1:=by rw [HI]; show t.1.Next+1=_; rw [t2]
  have gl:(dm t.1 w x t.2).ae.length=m.ae.length+1:=by rw [HI]; show (t.1.ae++[_]).length=_; rw [zK,zL,t1]
  have hf:∀ y∈(dm t.1 w x t.2).ae,jQ y=true->y.Block=t.2->y.Slot≠0:=by
   intro y hy Yr VY
   rw [HI] at hy
   rcases zH.1 hy with hy | hy
   ·exact absurd VY (F.n y hy Yr)
   ·rw [zS] at hy; subst hy
    rw [fT] at Yr
    have:((1:Int)=2\/(1:Int)=3\/(1:Int)=4):=Yr
    omega
  obtain ⟨a,b,c⟩:=S3.set (cV.2 ⟨by rw [gl]; omega,by rw [gn]; omega,by rw [gn]; omega⟩) Tk (k:=x) (p:=t.2) (s:=0) (by rw [gp w x Hy,if_pos ⟨rfl,rfl⟩]) F.b (by decide) (by decide) (by rw [gs _ _ F.b,if_pos rfl]) hf
  have HK:(aH (dm t.1 w x t.2).aa t.2).bZ=true:=S3.g.u4 ⟨w,x,Hy,by rw [gk w Hy]; exact hI.kw,by rw [gp w x Hy,if_pos ⟨rfl,rfl⟩]⟩ (by have:=F.b; obtain ⟨a,b⟩:=this; omega)
  refine .inr ⟨a,?_,?_,⟨t.2,0,?_,by decide,fun q=>absurd q hnO⟩,fun q Wx hq=> ?_,fun q u hq Wm cL=> ?_,fun i hi=> ?_⟩
  ·rw [c]; show ((dm t.1 w x t.2).ae++[_]).length<=_; rw [zK,zL,gl]; omega
  ·rw [c]; show (dm t.1 w x t.2).Next+1<=_; rw [gn]; omega
  ·rw [c,b]; exact List.mem_append_right _ (zS.2 rfl)
  ·rw [c]; exact go q Wx hq
  ·rw [c]
   show cA (bI (dm t.1 w x t.2).aa t.2 (0:Int).toNat ⟨nm,j⟩) q u=_
   have hq2:q≠t.2:=fun z=>hnO (z▸Wm)
   rw [kP S3.T' F.b HK (by decide) _ hq,if_neg (fun z=>hq2 z.1),gs q u hq,if_neg hq2]
  ·rw [c]; exact gk i hi
end Go.Soft
