import Derived.Test.YthkhihfodaobkaaGreatDC
set_option linter.constructorNameAsVariable false
set_option linter.unusedVariables false
set_option linter.unusedSimpArgs false
namespace Go.Soft
open Go
variable {R:Type}
theorem aP {n k:Nat} (hn:bn<=n) (h:k<100000000):k<n:=Nat.lt_of_lt_of_le h hn
theorem dN (a b:Nat):((a:Int)==(b:Int))=(a==b):=by
 by_cases h:a=b
 ·subst h; simp
 ·rw [beq_eq_false_iff_ne.2 h,beq_eq_false_iff_ne.2 (by omega)]
theorem Kz (s:ByteArray) (i:Nat):bt s i=(s.data.toList.getD i 0).toNat:=by
 simp [bt,Array.getD_eq_getD_getElem?,zT]
theorem size_eq (s:ByteArray):s.size=s.data.toList.length:=rfl
theorem iG {α:Type} {L:Nat->Int->Option R} {l:List α} (d:α) {B:Nat} {P:α->Bool} {e q:Option R} (hl:l.length<=4611686018427387904)
  (hs:∀ m i,B<m->i<l.length->L (m+1) (i:Int)=bif P (l.getD i d) then L m (aC ((i:Int)+1)) else e) (hq:∀ m,L (m+1) (l.length:Int)=q)
  {n:Nat} (hn:l.length+B<n):L n 0=bif l.all P then q else e:=by
 have:=mA (R:=R) hl hs hq l.length n 0 (by omega) hn
 rw [C7 l d P] at this
 exact this
def Xd (x:UInt8):Bool:=(decide (97<=x.toNat)&&decide (x.toNat<=122))||(decide (48<=x.toNat)&&decide (x.toNat<=57))
def bN (s:ByteArray):Bool:=s.data.toList.all Xd&&within s.size 1 6
theorem uo {n:Nat} (hn:bn<=n) (s:ByteArray) (hs:s.size<=cL) (k:Bool->Option R):kt n s k=k (bN s):=by
 simp only [kt,iZ,bN]
 have Cl:s.data.toList.length<=2097152:=hs
 have:=iG (R:=R) (L:=kV s (fun x=>k x) (k (within s.size 1 6))) (l:=s.data.toList) 0 (B:=0) (P:=Xd) (e:=k false) (q:=k (within s.size 1 6)) (by omega)
  (fun m i _ hi=>by
   have tw:i<s.size:=hi
   simp only [kV,br,aJ,tw,zV,Bool.or_true,bf,zE,zC,Kz,Xd]
   generalize s.data.toList.getD i 0=x
   have e1:decide (((x.toNat:Nat):Int)<97)= !decide (97<=x.toNat):=by
    by_cases h:97<=x.toNat<;>simp [h]<;>omega
   have e2:decide ((122:Int)<((x.toNat:Nat):Int))= !decide (x.toNat<=122):=by
    by_cases h:x.toNat<=122<;>simp [h]<;>omega
   have e3:decide (((x.toNat:Nat):Int)<48)= !decide (48<=x.toNat):=by
    by_cases h:48<=x.toNat<;>simp [h]<;>omega
   have e4:decide ((57:Int)<((x.toNat:Nat):Int))= !decide (x.toNat<=57):=by
    by_cases h:x.toNat<=57<;>simp [h]<;>omega
   rw [e1,e2,e3,e4]
   cases decide (97<=x.toNat)<;>cases decide (x.toNat<=122)<;>cases decide (48<=x.toNat)<;>cases decide (x.toNat<=57)<;>rfl)
  (fun m=>by
   have:(s.data.toList.length:Int)=(s.size:Int):=rfl
   simp [kV,this]) (n:=n) (aP hn (by omega))
 refine this.trans ?_
 rw [O6]; congr 1
 cases List.all s.data.toList Xd<;>rfl
theorem uf {L:Nat->Int->Option R} {len B:Nat} {p:Nat->Bool} {e:Int->Option R} {q:Option R} (hl:len<=4611686018427387904)
  (hs:∀ m i,B<m->i<len->L (m+1) (i:Int)=bif p i then e i else L m (aC ((i:Int)+1))) (hq:∀ m,L (m+1) (len:Int)=q) :
  ∀ (k m i:Nat),i+k=len->k+B<m->L m (i:Int)=match (List.range' i k).find? p with | some j=>e j | none=>q
 | 0,0,i,h1,h2=>by omega
 | 0,m+1,i,h1,h2=>by
  have:i=len:=by omega
  subst this; rw [hq]; rfl
 | k+1,0,i,h1,h2=>by omega
 | k+1,m+1,i,h1,h2=>by
  rw [hs m i (by omega) (by omega),bH (by omega),List.range'_succ,List.find?_cons]
  cases hp:p i with
  | true=>rfl
  | false=>exact uf hl hs hq k m (i+1) (by omega) (by omega)
def bY {α:Type} (P:α->Bool):List α->Int
 | []=> -1
 | x::l=>bif P x then 0 else match bY P l with | .ofNat j=> .ofNat (j+1) | _=> -1
theorem vr {α:Type} (P:α->Bool) (d:α) (l:List α):∀ (s:List α) (i:Nat),s=l.drop i->i<=l.length ->
  (match (List.range' i (l.length-i)).find? (fun j=>P (l.getD j d)) with | some j=>(j:Int) | none=> -1)=match bY P s with | .ofNat j=>((i+j:Nat):Int) | _=> -1
 | [],i,h,hi=>by
  have:l.length<=i:=by
   have:=congrArg List.length h; simp at this; omega
  rw [show l.length-i=0 by omega]; rfl
 | x::s,i,h,hi=>by
  have fM:i<l.length:=by
   have:=congrArg List.length h; simp at this; omega
  have hx:l.getD i d=x:=by
   have:=congrArg (fun l=>l[0]?) h
   simp only [List.getElem?_cons_zero,List.getElem?_drop,Nat.add_zero] at this
   simp [zT,← this]
  have hs:s=l.drop (i+1):=by
   have:=congrArg List.tail h
   simpa [List.tail_drop] using this
  obtain ⟨k,hk⟩:∃ k,l.length-i=k+1:=⟨l.length-i-1,by omega⟩
  rw [hk,List.range'_succ,List.find?_cons,hx]
  cases hp:P x with
  | true=>simp [bY,hp]
  | false =>
   have ih:=vr P d l s (i+1) hs (by omega)
   rw [show l.length-(i+1)=k by omega] at ih
   simp only [bY,hp,zF]
   rw [ih]
   cases Hs:bY P s with
   | ofNat j=>simp; omega
   | negSucc j=>rfl
def fe (b:Block) (name:ByteArray):Int:=bif name==eS then -1 else bY (fun s=>s.Name==name) b.an
theorem fN {α:Type} (P:α->Bool):∀ l:List α,bY P l= -1\/∃ j:Nat,bY P l=j/\j<l.length
 | []=> .inl rfl
 | x::l=>by
  simp only [bY]
  cases P x with
  | true=>exact .inr ⟨0,rfl,by simp⟩
  | false =>
   rcases fN P l with h | ⟨j,h,hj⟩
   ·rw [h]; exact .inl rfl
   ·rw [h]; exact .inr ⟨j+1,rfl,by simp; omega⟩
theorem DK {n:Nat} (hn:bn<=n) (b:Block) (hb:b.an.length<=cL) (name:ByteArray) (k:Int->Option R):p7 n b name k=k (fe b name):=by
 simp only [p7,fe]
 have MH:b.an.length<=2097152:=hb
 have:=uf (R:=R) (L:=kU name b.an (fun x=>k x) (k (-1))) (len:=b.an.length) (B:=0) (p:=fun i=> !(name==eS)&&((b.an.getD i au).Name==name)) (e:=fun i=>k i) (q:=k (-1)) (by omega)
  (fun m i _ hi=>by
   simp only [kU,br,aJ,hi,zV,Bool.or_true,bf,zE,zC]) (fun m=>by simp [kU]) b.an.length n 0 (by omega) (aP hn (by omega))
 refine this.trans ?_
 cases PN:name==eS with
 | true =>
  have:(List.range' 0 b.an.length).find? (fun i=> !true&&((b.an.getD i au).Name==name))=none:=by
   rw [List.find?_eq_none]; intro x _; simp
  rw [this]; rfl
 | false =>
  have h2:=vr (fun s:Slot=>s.Name==name) au b.an b.an 0 rfl (by omega)
  simp only [Nat.sub_zero,Nat.zero_add] at h2
  simp only [zN,Bool.true_and,zF]
  have h3:(match bY (fun s:Slot=>s.Name==name) b.an with | .ofNat j=>((j:Nat):Int) | _=> -1)=bY (fun s:Slot=>s.Name==name) b.an:=by
   rcases fN (fun s:Slot=>s.Name==name) b.an with h | ⟨j,h,_⟩<;>rw [h]<;>rfl
  rw [← h3,← h2]
  cases List.find? _ _<;>rfl
def wZ (l:List Slot) (i:Nat):Bool:=((l.getD i au).Name==eS&&(l.getD i au).Ino==0)||((bN (l.getD i au).Name&&within (l.getD i au).Ino 1 8)&&(List.range' 0 i).all fun k=> !((l.getD k au).Name==(l.getD i au).Name))
def Ek (l:List Slot):Bool:=(List.range' 0 4).all (wZ l)
def bF (b:Block):Bool:=bif b.cp then (b.an.length==4&&b.Text==eS)&&Ek b.an else b.an.length==0&&decide (b.Text.size<=16)
def Bs (s:Slot):Prop:=s.Name.size<=cL
def wz (b:Block):Prop:=b.an.length<=cL/\b.Text.size<=cL/\∀ s∈b.an,Bs s
def Em (x:aX):Prop:=x.ax.length<=cL
structure kj (d:aa):Prop where
 bb:d.aq.ab.length<=cL
 bi:d.aq.bD.length<=cL
 di:d.ad.length<=cL
 db:d.ab.length<=cL
 ino:∀ x∈d.ad,Em x
 oR:∀ b∈d.ab,wz b
theorem Bm {n:Nat} (hn:bn<=n) (b:Block) (hb:wz b) (k:Bool->Option R):p9 n b k=k (bF b):=by
 simp only [p9,bF]
 cases hd:b.cp with
 | false =>
  simp only [zN,zE,zF]
  congr 2
  ·exact dN b.an.length 0
  ·exact decide_eq_decide.2 (by omega)
 | true =>
  simp only [zM,zE,zF]
  rw [show (4:Int)=((4:Nat):Int) from rfl,dN]
  cases hl:b.an.length==4 with
  | false=>rfl
  | true =>
   cases ht:b.Text==eS with
   | false=>rfl
   | true =>
    have Vy:b.an.length=4:=by simpa using hl
    simp only [zM,Bool.or_false,zF,Bool.true_and]
    have:=mA (R:=R) (L:=fA n b.an (fun x=>k x) (k true)) (len:=4) (B:=10) (p:=wZ b.an) (e:=k false) (q:=k true) (by omega)
     (fun m i hm hi=>by
      have hn4:(b.an.getD i au).Name.size<=cL:=hb.2.2 _ (aY au (by omega))
      simp only [fA,iZ,aJ,Vy,zC,wZ]
      rw [show decide ((i:Int)<4)=true by simp; omega,show decide (i<4)=true by simp; omega]
      simp only [zE,bf]
      cases h1:(b.an.getD i au).Name==eS&&(b.an.getD i au).Ino==0 with
      | true=>rfl
      | false =>
       simp only [zF,Bool.false_or]
       rw [uo hn _ hn4]
       cases bN (b.an.getD i au).Name with
       | false=>rfl
       | true =>
        cases within (b.an.getD i au).Ino 1 8 with
        | false=>rfl
        | true =>
         simp only [zM,zN,zE,Bool.or_false,zF,Bool.true_and]
         have h2:=mA (R:=R) (L:=iP (i:Int) (b.an.getD i au).Name b.an (fun x=>k x) (fA n b.an (fun x=>k x) (k true) m (aC ((i:Int)+1)))) (len:=i) (B:=0)
          (p:=fun j=> !((b.an.getD j au).Name==(b.an.getD i au).Name)) (e:=k false) (q:=fA n b.an (fun x=>k x) (k true) m (aC ((i:Int)+1))) (by omega)
          (fun m j _ hj=>by
           simp only [iP,br,aJ,hj,zV,Vy,zC,zE]
           rw [show decide (j<4)=true by simp; omega,bf]
           cases (b.an.getD j au).Name==(b.an.getD i au).Name<;>rfl) (fun m=>by simp [iP]) i m 0 (by omega) (by omega)
         exact h2) (fun m=>by simp [fA]) 4 n 0 rfl (aP hn (by omega))
    refine this.trans ?_
    rw [O6]; congr 1
    show _=Ek b.an
    simp only [Ek]
    cases List.all _ _<;>rfl
def q7 (b:aq):Bool:=b.ab.length==16&&b.bD.length==8
theorem C0 (b:aq) (k:Bool->Option R):so b k=k (q7 b):=by
 simp only [so,q7]
 rw [show (16:Int)=((16:Nat):Int) from rfl,show (8:Int)=((8:Nat):Int) from rfl,dN,dN]
def n6 (d:aa):Bool:=(q7 d.aq&&(d.ad.length==8&&d.ab.length==16))&&(d.ad.all bx&&d.ab.all bF)
theorem xB {n:Nat} (hn:bn<=n) (d:aa) (hd:kj d) (k:Bool->Option R):qc n d k=k (n6 d):=by
 simp only [qc,n6,C0]
 rw [show (16:Int)=((16:Nat):Int) from rfl,show (8:Int)=((8:Nat):Int) from rfl,dN,dN]
 have l1:d.ad.length<=2097152:=hd.di
 have l2:d.ab.length<=2097152:=hd.db
 cases q7 d.aq<;>cases d.ad.length==8<;>cases d.ab.length==16<;>try rfl
 simp only [zM,Bool.or_false,zF,Bool.true_and]
 have h2:=iG (R:=R) (L:=g7 n d.ab (fun x=>k x) (k true)) (l:=d.ab) aA (B:=0) (P:=bF) (e:=k false) (q:=k true) (by omega)
  (fun m i _ hi=>by
   simp only [g7,br,aJ,hi,zV,bf,zE,zC]
   rw [Bm hn _ (hd.oR _ (aY aA hi))]
   cases bF (d.ab.getD i aA)<;>rfl) (fun m=>by simp [g7]) (n:=n) (aP hn (by omega))
 have h1:=iG (R:=R) (L:=kR n d.ad (fun x=>k x) (g7 n d.ab (fun x=>k x) (k true) n 0)) (l:=d.ad) ay (B:=0) (P:=bx) (e:=k false) (q:=g7 n d.ab (fun x=>k x) (k true) n 0) (by omega)
  (fun m i _ hi=>by
   simp only [kR,br,aJ,hi,zV,bf,zE,zC]
   rw [ve hn]
   cases bx (d.ad.getD i ay)<;>rfl) (fun m=>by simp [kR]) (n:=n) (aP hn (by omega))
 refine h1.trans ?_
 rw [h2]
 cases List.all d.ad bx<;>cases List.all d.ab bF<;>rfl
theorem cK {α:Type} {l:List α} {i:Nat} (d:α) (h:i<l.length):l.drop i=l.getD i d::l.drop (i+1):=by
 rw [List.drop_eq_getElem_cons h]; simp [zT,h]
theorem tL {α β:Type} {L:Nat->Int->List β->Option R} {l:List α} (d:α) {f:α->List β} {B C:Nat} {q:List β->Option R} (hl:l.length<=4611686018427387904) (hC:∀ x∈l,(f x).length<=C)
  (hs:∀ m i acc,B<m->i<l.length->acc.length<=C*i->L (m+1) (i:Int) acc=L m (aC ((i:Int)+1)) (acc++f (l.getD i d))) (hq:∀ m acc,L (m+1) (l.length:Int) acc=q acc) :
  ∀ (k m i:Nat) (acc:List β),i+k=l.length->k+B<m->acc.length<=C*i->L m (i:Int) acc=q (acc++(l.drop i).flatMap f)
 | 0,0,i,acc,h1,h2,h3=>by omega
 | 0,m+1,i,acc,h1,h2,h3=>by
  have:i=l.length:=by omega
  subst this; rw [hq]; simp
 | k+1,0,i,acc,h1,h2,h3=>by omega
 | k+1,m+1,i,acc,h1,h2,h3=>by
  have hi:i<l.length:=by omega
  have hx:=hC _ (aY d hi)
  rw [hs m i acc (by omega) hi h3,bH (by omega),tL d hl hC hs hq k m (i+1) _ (by omega) (by omega) (by rw [zK,Nat.mul_add]; omega),cK d hi,List.flatMap_cons,List.append_assoc]
theorem oK {α β:Type} {L:Nat->Int->List β->Option R} {l:List α} (d:α) {f:α->β} {B:Nat} {q:List β->Option R} (hl:l.length<=4611686018427387904)
  (hs:∀ m i acc,B<m->i<l.length->acc.length<=i->L (m+1) (i:Int) acc=L m (aC ((i:Int)+1)) (acc++[f (l.getD i d)])) (hq:∀ m acc,L (m+1) (l.length:Int) acc=q acc)
  {n:Nat} (hn:l.length+B<n):L n 0 []=q (l.map f):=by
 have:=tL (R:=R) (l:=l) d (f:=fun x=>[f x]) (C:=1) hl (fun x _=>by simp) (fun m i acc h1 h2 h3=>hs m i acc h1 h2 (by omega)) hq l.length n 0 [] (by omega) hn (by simp)
 rw [List.drop_zero,List.nil_append] at this
 refine this.trans ?_
 congr 1
 exact List.map_eq_flatMap.symm
theorem cb {α:Type} {l:List α} {i:Nat} {x:List α} (h:l.length<=i) (hi:i<=2097152) (hx:x.length<=1099507433472):bg (l++x)=true:=cn (by rw [zK]; omega)
theorem I7 (b:aq) (h1:b.ab.length<=cL) (h2:b.bD.length<=cL) (k:aq->Option R):tH b k=k b:=by
 have h1:b.ab.length<=2097152:=h1
 have h2:b.bD.length<=2097152:=h2
 simp only [tH,List.nil_append]
 rw [ai (cn (by omega)),ai (cn (by omega))]
theorem vm (x:aX) (h:Em x) (k:aX->Option R):nH x k=k x:=by
 have h:x.ax.length<=2097152:=h
 simp only [nH,List.nil_append]
 rw [ai (cn (by omega))]
theorem vu (b:Block) (h:b.an.length<=cL) (k:Block->Option R):lS b k=k b:=by
 have h:b.an.length<=2097152:=h
 simp only [lS,List.nil_append]
 rw [ai (cn (by omega))]
theorem oE {n:Nat} (hn:bn<=n) (d:aa) (hd:kj d) (k:aa->Option R):jS n d k=k d:=by
 have l1:d.ad.length<=2097152:=hd.di
 have l2:d.ab.length<=2097152:=hd.db
 simp only [jS]
 rw [I7 _ hd.bb hd.bi]
 have h2:=oK (R:=R) (L:=gj d.ab (fun eR=>k ⟨d.aq,d.ad,eR⟩)) (l:=d.ab) aA (f:=id) (B:=0) (q:=fun eR=>k ⟨d.aq,d.ad,eR⟩) (by omega)
  (fun m i acc _ hi ha=>by
   simp only [gj,br,aJ,hi,zV,bf,zE,zC]
   rw [vu _ (hd.oR _ (aY aA hi)).1,ai (cb ha (by omega) (by simp))]; rfl) (fun m acc=>by simp only [gj,Int.lt_irrefl,decide_false,zF]) (n:=n) (aP hn (by omega))
 have h1:=oK (R:=R) (L:=jF d.ad (fun v=>gj d.ab (fun eR=>k ⟨d.aq,v,eR⟩) n 0 [])) (l:=d.ad) ay (f:=id) (B:=0) (q:=fun v=>gj d.ab (fun eR=>k ⟨d.aq,v,eR⟩) n 0 []) (by omega)
  (fun m i acc _ hi ha=>by
   simp only [jF,br,aJ,hi,zV,bf,zE,zC]
   rw [vm _ (hd.ino _ (aY ay hi)),ai (cb ha (by omega) (by simp))]; rfl) (fun m acc=>by simp only [jF,Int.lt_irrefl,decide_false,zF]) (n:=n) (aP hn (by omega))
 rw [List.map_id] at h1 h2
 exact h1.trans h2
def rL (d:bE):Prop:=d.Name.size<=cL/\d.ab.length<=cL
structure eK (m:Mem):Prop where
 d:kj m.aa
 dy:m.ak.length<=cL
 dp:m.ae.length<=cL
 dep:∀ d∈m.ae,rL d
theorem dZ {n:Nat} (hn:bn<=n) (x:Mem) (hx:eK x) (k:Mem->Option R):dv n x k=k x:=by
 have l1:x.ak.length<=2097152:=hx.dy
 have l2:x.ae.length<=2097152:=hx.dp
 simp only [dv,List.nil_append]
 rw [oE hn _ hx.d,ai (cn (by omega))]
 have h2:=oK (R:=R) (L:=jH x.ae (fun v=>k ⟨x.aa,x.ak,v,x.Next⟩)) (l:=x.ae) aH (f:=id) (B:=0) (q:=fun v=>k ⟨x.aa,x.ak,v,x.Next⟩) (by omega)
  (fun m i acc _ hi ha=>by
   have hb:(x.ae.getD i aH).ab.length<=2097152:=(hx.dep _ (aY aH hi)).2
   simp only [jH,br,aJ,hi,zV,bf,zE,zC,List.nil_append]
   rw [ai (cn (by omega)),ai (cb ha (by omega) (by simp))]; rfl) (fun m acc=>by simp only [jH,Int.lt_irrefl,decide_false,zF]) (n:=n) (aP hn (by omega))
 rw [List.map_id] at h2
 exact h2
def fy:aa:=⟨⟨List.replicate 16 false,(List.replicate 8 false).set 0 true⟩,(List.replicate 8 (ba 0)).set 0 (ba 2),List.replicate 16 aA⟩
theorem qE {n:Nat} (hn:bn<=n) (k:aa->Option R):nN n k=k fy:=by
 simp only [nN,lU]
 rw [ai (by rfl)]
 have h2:=oK (R:=R) (L:=jX (fun v=>dX 2 fun i=>aK (bc 0 v.length) (k ⟨⟨List.replicate 16 false,(List.replicate 8 false).set 0 true⟩,v.set 0 i,List.replicate 16 aA⟩))) (l:=List.replicate 8 ()) () (f:=fun _=>ba 0) (B:=0) (q:=fun v=>dX 2 fun i=>aK (bc 0 v.length) (k ⟨⟨List.replicate 16 false,(List.replicate 8 false).set 0 true⟩,v.set 0 i,List.replicate 16 aA⟩)) (by decide)
  (fun m i acc _ hi ha=>by
   have hi:i<8:=by simpa using hi
   simp only [jX,jv]
   rw [show decide ((i:Int)<8)=true by simp; omega,bw,ai (cb ha (by omega) (by simp))]) (fun m acc=>by simp [jX]) (n:=n) (aP hn (by decide))
 refine h2.trans ?_
 rw [jv,ai (by rfl)]
 rfl
theorem xG (k:Block->Option R):td k=k ⟨true,List.replicate 4 au,eS⟩:=rfl
def Au (d:aa):Mem:=⟨d,List.replicate 21 false,[],1⟩
theorem Mc {n:Nat} (hn:bn<=n) (d:aa) (hd:kj d) (k:Mem->Option R):wR n d k=k (Au d):=by
 simp only [wR]
 rw [oE hn d hd]; rfl
theorem OO (n:Int):0<=IntKind.u8.wrap n/\IntKind.u8.wrap n<256:=by
 simp only [IntKind.wrap,IntKind.signed,IntKind.bits]
 simp
 omega
theorem nU (n:Int):kg (IntKind.u8.wrap n)=true:=by
 have:=OO n
 simp only [kg,zB,zD]; exact this
def M7 (n:Int):UInt8:=UInt8.ofNat (IntKind.u8.wrap n).toNat
theorem wA (n:Int):UInt8.ofNat (IntKind.u8.wrap n).toNat=M7 n:=rfl
def De:List Bool->Nat->Nat
 | [],_=>0
 | b::l,w=>(bif b then w else 0)+De l (2*w)
def qX (l:List Bool):Int:=De l 1
theorem qR (l:List Bool) (hl:l.length<=60) (q:Int->Option R):∀ (k m i x w:Nat),i+k=l.length->k<m->x<w->w*2 ^ k<=1152921504606846976 ->
  iq l q m (x:Int) (w:Int) (i:Int)=q ((x+De (l.drop i) w:Nat):Int)
 | 0,0,i,x,w,h1,h2,h0,h3=>by omega
 | 0,m+1,i,x,w,h1,h2,h0,h3=>by
  have:i=l.length:=by omega
  subst this
  simp [iq,De]
 | k+1,0,i,x,w,h1,h2,h0,h3=>by omega
 | k+1,m+1,i,x,w,h1,h2,h0,h3=>by
  have hi:i<l.length:=by omega
  have hp:0<2 ^ k:=Nat.pos_of_ne_zero (by simp)
  have hw:w*2 ^ (k+1)=2*w*2 ^ k:=by rw [Nat.pow_succ,Nat.mul_comm 2 w,Nat.mul_assoc,Nat.mul_comm 2]
  have hw2:2*w<=2*w*2 ^ k:=Nat.le_mul_of_pos_right _ hp
  simp only [iq,br,aJ,hi,zV,zE,bf,zC]
  rw [cK false hi,show (2:Int)*(w:Int)=((2*w:Nat):Int) by omega,eC (by omega),bH (by omega),← Int.natCast_add,eC (by omega)]
  cases hb:l.getD i false with
  | true =>
   simp only [zE,De]
   rw [qR l hl q k m (i+1) (x+w) (2*w) (by omega) (by omega) (by omega) (by omega),← Nat.add_assoc]
  | false =>
   simp only [zF,De,Nat.zero_add]
   rw [qR l hl q k m (i+1) x (2*w) (by omega) (by omega) (by omega) (by omega)]
theorem vq {n:Nat} (hn:bn<=n) (l:List Bool) (hl:l.length<=60) (k:Int->Option R):nK n l k=k (IntKind.u8.wrap (qX l)):=by
 simp only [nK]
 have hp:(2:Nat) ^ l.length<=2 ^ 60:=Nat.pow_le_pow_right (by decide) hl
 have h2:(2:Nat) ^ 60=1152921504606846976:=rfl
 have:=qR (R:=R) l hl (fun xn=>k (IntKind.u8.wrap xn)) l.length n 0 0 1 (by omega) (aP hn (by omega)) (by omega) (by omega)
 rw [List.drop_zero,Nat.zero_add] at this
 exact this
def A0 (b:aq):ByteArray:=bif q7 b then yT [M7 (qX (b.ab.take 8)),M7 (qX (b.ab.drop 8)),M7 (qX b.bD)] else eS
theorem FM {n:Nat} (hn:bn<=n) (b:aq) (k:ByteArray->Bool->Option R):qD n b k=k (A0 b) (q7 b):=by
 simp only [qD,C0,A0]
 cases hb:q7 b with
 | false=>rfl
 | true =>
  simp only [q7,zB,beq_iff_eq] at hb
  obtain ⟨h1,h2⟩:=hb
  simp only [zM,zF,zE]
  rw [ai (by simp [qd,h1]),vq hn _ (by simp [sub]; omega),ai (by simp [qd,h1]),vq hn _ (by simp [sub]; omega),vq hn _ (by omega)]
  simp only [wA,nU,Bool.and_true,bf]
  have e1:sub b.ab 0 8=b.ab.take 8:=by simp [sub]
  have e2:sub b.ab 8 (b.ab.length-8)=b.ab.drop 8:=by
   simp only [sub]; rw [List.take_of_length_le (by simp)]
  rw [e1,e2]
def nP (x:aX):ByteArray:=bif bx x then yT [M7 x.Kind,M7 x.Links,M7 (x.ax.getD 0 0),M7 (x.ax.getD 1 0)] else eS
theorem jf {x:aX} (h:bx x=true):x.ax.length=2:=by
 simp only [bx,zB,beq_iff_eq] at h
 exact h.2.2.1
theorem wm {n:Nat} (hn:bn<=n) (x:aX) (k:ByteArray->Bool->Option R):mO n x k=k (nP x) (bx x):=by
 simp only [mO,ve hn,nP]
 cases hb:bx x with
 | false=>rfl
 | true =>
  have hl:=jf hb
  simp only [zM,zF,zE,wA,nU,Bool.and_true,bf]
  rw [ai (by simp [bc,hl]),ai (by simp [bc,hl])]
def wg:Nat->Nat->List UInt8×Nat
 | 0,x=>([],x)
 | f+1,x=>bif decide (127<x) then (M7 (x % 128+128:Nat)::(wg f (x/128)).1,(wg f (x/128)).2) else ([],x)
def Jf (n:Nat):ByteArray:=yT ((wg 9 n).1++[M7 (wg 9 n).2])
theorem Af:∀ f x,(wg f x).1.length<=f
 | 0,x=>by simp [wg]
 | f+1,x=>by
  simp only [wg]
  cases decide (127<x) with
  | true=>simp only [zE,zR]; have:=Af f (x/128); omega
  | false=>simp
theorem Iy {f x:Nat} (h:x<=127):wg f x=([],x):=by
 cases f with
 | zero=>rfl
 | succ f=>simp only [wg]; rw [decide_eq_false (by omega)]; rfl
theorem yq (Q:Int->List UInt8->Option R):∀ (f x m:Nat) (acc:List UInt8),x<128 ^ (f+1)->x<=4611686018427387904->f<m->acc.length+f<=100 ->
  mP Q m (x:Int) acc=Q ((wg f x).2:Int) (acc++(wg f x).1)
 | f,x,0,acc,h1,hb,h2,h3=>by omega
 | f,x,m+1,acc,h1,hb,h2,h3=>by
  simp only [mP,nU,Bool.and_true,bf]
  have hd:decide ((127:Int)<(x:Int))=decide (127<x):=decide_eq_decide.2 (by omega)
  rw [hd]
  by_cases hx:127<x
  ·cases f with
   | zero=>simp at h1; omega
   | succ f =>
    rw [decide_eq_true hx,bw,Int.tmod_eq_emod_of_nonneg (by omega),Int.tdiv_eq_ediv_of_nonneg (by omega),show (x:Int) % 128+128=((x % 128+128:Nat):Int) by omega,show (x:Int)/128=((x/128:Nat):Int) by omega,
     eC (by omega),eC (by omega),wA,ai (cn (by rw [zK,zL]; omega)),
     yq Q f (x/128) m _ (by rw [Nat.div_lt_iff_lt_mul (by decide),← Nat.pow_succ]; exact h1) (by omega) (by omega) (by rw [zK,zL]; omega),List.append_assoc]
    simp only [wg,decide_eq_true hx,zE]
    rfl
  ·rw [decide_eq_false hx,bh,Iy (by omega)]
   simp
theorem DX {n:Nat} (hn:bn<=n) (x:Nat) (hx:x<=1152921504606846976) (k:ByteArray->Option R):sT n x k=k (Jf x):=by
 simp only [sT,Jf]
 rw [yq _ 9 x n [] (by omega) (by omega) (aP hn (by omega)) (by simp)]
 have:=Af 9 x
 simp only [nU,Bool.and_true,bf,List.nil_append,wA]
 rw [ai (cn (by rw [zK,zL]; omega))]
def JG (s:Slot):ByteArray:=yT [M7 s.Ino]++Jf s.Name.size++s.Name
def Iz (a:ByteArray) (l:List Slot):ByteArray:=l.foldl (fun a s=>a++JG s) a
def nS (b:Block):ByteArray:=bif bF b then (bif b.cp then Iz (S [100]) b.an else S [116]++b.Text) else eS
theorem Bc (a b c:ByteArray):(a++b)++c=a++(b++c):=by
 apply ByteArray.ext
 simp [ByteArray.data_append,Array.append_assoc]
theorem DD (x:Nat):(Jf x).size<=10:=by
 have:=Af 9 x
 show ((wg 9 x).1++[M7 (wg 9 x).2]).length<=10
 rw [zK,zL]; omega
theorem wL (l:List UInt8):(yT l).size=l.length:=rfl
theorem IE (s:Slot):(JG s).size<=11+s.Name.size:=by
 have:=DD s.Name.size
 simp only [JG,ByteArray.size_append,wL,zL]; omega
theorem eW {s:ByteArray} (h:bN s=true):1<=s.size/\s.size<=6:=by
 simp only [bN,within,zB,zD] at h
 omega
theorem Ik {l:List Slot} {i:Nat} (h:wZ l i=true):(l.getD i au).Name.size<=6:=by
 simp only [wZ,Bool.or_eq_true,zB,beq_iff_eq] at h
 rcases h with ⟨h,_⟩ | ⟨⟨h,_⟩,_⟩
 ·rw [h]; decide
 ·exact (eW h).2
theorem lO {n:Nat} {p:Nat->Bool} (h:(List.range' 0 n).all p=true) {i:Nat} (hi:i<n):p i=true:=by
 rw [List.all_eq_true] at h
 exact h i (by simp [List.mem_range']; omega)
theorem w6 {n:Nat} (hn:bn<=n) (b:Block) (hb:wz b) (k:ByteArray->Bool->Option R):g6 n b k=k (nS b) (bF b):=by
 simp only [g6,Bm hn b hb,nS]
 cases xt:bF b with
 | false=>rfl
 | true =>
  simp only [zM,zF,zE]
  cases hd:b.cp with
  | false =>
   have h2:b.Text.size<=2097152:=hb.2.1
   simp only [zN,zE,zF]
   rw [ai (iK (by have:(S [116]).size=1:=rfl; omega))]
  | true =>
   simp only [bF,hd,zE,zB,beq_iff_eq] at xt
   obtain ⟨⟨hl,_⟩,hs⟩:=xt
   simp only [zM,zF,zE]
   have loop:∀ (j m i:Nat) (a:ByteArray),i+j=4->j<m->a.size<=1+17*i->gP n b.an (fun s=>k s true) m a (i:Int)=k (Iz a (b.an.drop i)) true:=by
    intro j
    induction j with
    | zero =>
     intro m i a h1 h2 h3
     have:i=4:=by omega
     subst this
     cases m with
     | zero=>omega
     | succ m=>rw [List.drop_of_length_le (by omega)]; simp [gP,Iz]
    | succ j ih =>
     intro m i a h1 h2 h3
     cases m with
     | zero=>omega
     | succ m =>
      have hi:i<b.an.length:=by omega
      have mi:=Ik (lO hs (i:=i) (by omega))
      have hv:=DD (b.an.getD i au).Name.size
      have pS:=IE (b.an.getD i au)
      simp only [gP,aJ,hi,zV,bf,zC,nU,Bool.and_true,wA]
      rw [show decide ((i:Int)<4)=true by simp; omega,bw,DX hn _ (by omega),ai (iK (by rw [wL,zL]; omega)),
       ai (iK (by rw [ByteArray.size_append,wL,zL]; omega)),ai (iK (by rw [ByteArray.size_append,ByteArray.size_append,wL,zL]; omega)),bH (by omega),
       cK au hi,Bc,Bc,← Bc (yT _)]
      exact ih m (i+1) _ (by omega) (by omega) (by
       show (a++JG (b.an.getD i au)).size<=_
       rw [ByteArray.size_append]; omega)
   have:=loop 4 n 0 (S [100]) rfl (aP hn (by omega)) (by decide)
   rw [List.drop_zero] at this
   exact this
def ah (d:aa) (i:Int):aX:=d.ad.getD (i-1).toNat ay
def aO (d:aa) (p:Int):Block:=d.ab.getD (p-1).toNat aA
theorem aj {x a b:Int}:within x a b=true↔a<=x/\x<=b:=by simp [within]
theorem bR {x:Int} (h1:0<=x) (h2:x<=9223372036854775807):aC (x-1)=x-1:=cy (by omega) (by omega)
theorem bB {x:Int} {n:Nat} (h1:1<=x) (h2:x<=n):bc (x-1) n=true:=by
 simp only [bc,zB,zD]; omega
def dw (d:aa) (p:Int):Block×Bool:=bif within p 1 d.ab.length then (aO d p,true) else (aA,false)
theorem yA (d:aa) (hd:d.ab.length<=cL) (p:Int) (k:Block->Bool->Option R):oH d p k=k (dw d p).1 (dw d p).2:=by
 have hd:d.ab.length<=2097152:=hd
 simp only [oH,iZ,dw]
 cases h:within p 1 d.ab.length with
 | false=>rfl
 | true =>
  rw [aj] at h
  simp only [zM,zF,zE]
  rw [bR (by omega) (by omega),ai (bB h.1 h.2)]
  rfl
def has (l:List Int) (x:Int):Bool:=l.any (·==x)
theorem zy {α:Type} (P:α->Bool) (l:List α):l.all (fun x=> !P x)= !l.any P:=by
 induction l with
 | nil=>rfl
 | cons x l ih=>simp only [List.all_cons,List.any_cons,ih,Bool.not_or]
theorem xR {n:Nat} (hn:bn<=n) (l:List Int) (hl:l.length<=cL) (x:Int) (k:Bool->Option R):sO n l x k=k (has l x):=by
 have xi:l.length<=2097152:=hl
 have:=iG (R:=R) (L:=kS x l (fun kD=>k kD) (k false)) (l:=l) 0 (B:=0) (P:=fun y=> !(y==x)) (e:=k true) (q:=k false) (by omega)
  (fun m i _ hi=>by
   simp only [kS,br,aJ,hi,zV,bf,zE,zC]
   cases l.getD i 0==x<;>rfl) (fun m=>by simp [kS]) (n:=n) (aP hn (by omega))
 refine this.trans ?_
 rw [zy (fun y=>y==x),has]
 cases l.any fun y=>y==x<;>rfl
def firstFree (l:List Bool):Int:=match bY (fun b=> !b) l with | .ofNat j=>((j+1:Nat):Int) | _=>0
theorem v8 {n:Nat} (hn:bn<=n) (l:List Bool) (hl:l.length<=cL) (k:Int->Option R):pC n l k=k (firstFree l):=by
 have xi:l.length<=2097152:=hl
 have:=uf (R:=R) (L:=gR l (fun x=>k x) (k 0)) (len:=l.length) (B:=0) (p:=fun i=> !(l.getD i false)) (e:=fun i=>k (aC (i+1))) (q:=k 0) (by omega)
  (fun m i _ hi=>by
   simp only [gR,br,aJ,hi,zV,bf,zE,zC]) (fun m=>by simp [gR]) l.length n 0 (by omega) (aP hn (by omega))
 refine this.trans ?_
 have h2:=vr (fun b:Bool=> !b) false l l 0 rfl (by omega)
 simp only [Nat.sub_zero,Nat.zero_add] at h2
 have h3:∀ j,List.find? (fun i=> !l.getD i false) (List.range' 0 l.length)=some j->j<l.length:=by
  intro j hj
  have:=List.mem_of_find?_eq_some hj
  simp [List.mem_range'] at this
  omega
 rcases fN (fun b:Bool=> !b) l with h | ⟨j,h,hj⟩
 ·rw [h] at h2
  cases hf:List.find? (fun i=> !l.getD i false) (List.range' 0 l.length) with
  | none=>simp only [firstFree,h]
  | some j=>rw [hf] at h2; simp only at h2; omega
 ·rw [h] at h2
  cases hf:List.find? (fun i=> !l.getD i false) (List.range' 0 l.length) with
  | none=>rw [hf] at h2; simp only at h2; omega
  | some j' =>
   rw [hf] at h2
   have h4:(j':Int)=(j:Int):=h2
   have:j'=j:=by omega
   subst this
   simp only [firstFree,h]
   rw [bH (by omega)]
theorem om (l:List Bool):(firstFree l=0/\l.all id=true)\/∃ j:Nat,firstFree l=j+1/\j<l.length/\l.getD j false=false/\(l.take j).all id=true:=by
 simp only [firstFree]
 have key:∀ l:List Bool,(bY (fun b=> !b) l= -1/\l.all id=true)\/∃ j:Nat,bY (fun b=> !b) l=j/\j<l.length/\l.getD j false=false/\(l.take j).all id=true:=by
  intro l
  induction l with
  | nil=>exact .inl ⟨rfl,rfl⟩
  | cons x l ih =>
   simp only [bY]
   cases x with
   | false=>exact .inr ⟨0,rfl,by simp,rfl,rfl⟩
   | true =>
    rcases ih with ⟨h,h2⟩ | ⟨j,h,h2,h3,h4⟩
    ·rw [h]; exact .inl ⟨rfl,by simpa using h2⟩
    ·rw [h]; exact .inr ⟨j+1,rfl,by simp; omega,by simpa using h3,by simpa using h4⟩
 rcases key l with ⟨h,h2⟩ | ⟨j,h,h2⟩
 ·rw [h]; exact .inl ⟨rfl,h2⟩
 ·rw [h]; exact .inr ⟨j,rfl,h2⟩
def aM (i:Int):Int:=bif within i 1 8 then 1+(i-1)/2 else -1
theorem gi (i:Int) (k:Int->Option R):dJ i k=k (aM i):=by
 simp only [dJ,iZ,aM]
 cases h:within i 1 8 with
 | false=>rfl
 | true =>
  rw [aj] at h
  simp only [zM,zF,zE]
  rw [cy (n:=i-1) (by omega) (by omega),Int.tdiv_eq_ediv_of_nonneg (by omega),cy (n:=(i-1)/2) (by omega) (by omega),cy (by omega) (by omega)]
def aE (p:Int):Int:=bif within p 1 16 then p+4 else -1
theorem ea (p:Int) (k:Int->Option R):bV p k=k (aE p):=by
 simp only [bV,iZ,aE]
 cases h:within p 1 16 with
 | false=>rfl
 | true =>
  rw [aj] at h
  simp only [zM,zF,zE]
  rw [cy (by omega) (by omega)]
def mark (u:Int) (m:Mem):Mem:=bif decide (0<=u)&&decide (u<m.ak.length) then { m with ak:=m.ak.set u.toNat true } else m
theorem dj (u:Int) (m:Mem) (k:Mem->Option R):bX u m k=k (mark u m):=by
 simp only [bX,mark]
 cases h:decide (0<=u)&&decide (u<(m.ak.length:Int)) with
 | false=>rfl
 | true =>
  simp only [zE]
  rw [ai (by simpa [bc] using h)]
def aV (m:Mem):Mem×Int:=bif firstFree m.aa.aq.ab==0 then (m,0) else
 (mark 0 { m with aa:={ m.aa with aq:={ m.aa.aq with ab:=m.aa.aq.ab.set (firstFree m.aa.aq.ab-1).toNat true } } },firstFree m.aa.aq.ab)
def aT (m:Mem):Mem×Int:=bif firstFree m.aa.aq.bD==0 then (m,0) else
 (mark 0 { m with aa:={ m.aa with aq:={ m.aa.aq with bD:=m.aa.aq.bD.set (firstFree m.aa.aq.bD-1).toNat true } } },firstFree m.aa.aq.bD)
theorem kA (l:List Bool) (h:(firstFree l==0)=false):1<=firstFree l/\firstFree l<=l.length:=by
 rcases om l with ⟨h1,_⟩ | ⟨j,h1,h2,_⟩
 ·rw [h1] at h; cases h
 ·omega
theorem wM {n:Nat} (hn:bn<=n) (m:Mem) (hm:eK m) (k:Mem->Int->Option R):mC n m k=k (aV m).1 (aV m).2:=by
 have hl:m.aa.aq.ab.length<=2097152:=hm.d.bb
 simp only [mC,aV]
 rw [dZ hn m hm,v8 hn _ hm.d.bb]
 cases h:firstFree m.aa.aq.ab==0 with
 | true=>rfl
 | false =>
  have:=kA _ h
  simp only [zF]
  rw [bR (by omega) (by omega),ai (bB this.1 this.2),dj]
  simp only [mark]
  cases decide ((0:Int)<=0)&&decide ((0:Int)<(m.ak.length:Int))<;>rfl
theorem IT {n:Nat} (hn:bn<=n) (m:Mem) (hm:eK m) (k:Mem->Int->Option R):ue n m k=k (aT m).1 (aT m).2:=by
 have hl:m.aa.aq.bD.length<=2097152:=hm.d.bi
 simp only [ue,aT]
 rw [dZ hn m hm,v8 hn _ hm.d.bi]
 cases h:firstFree m.aa.aq.bD==0 with
 | true=>rfl
 | false =>
  have:=kA _ h
  simp only [zF]
  rw [bR (by omega) (by omega),ai (bB this.1 this.2),dj]
  simp only [mark]
  cases decide ((0:Int)<=0)&&decide ((0:Int)<(m.ak.length:Int))<;>rfl
def fq (m:Mem):Bool:=decide (m.ae.length<40)&&within m.Next 1 99999
def dz (m:Mem) (d:bE):Mem×Int:=bif fq m then ({ m with ae:=m.ae++[{ d with Id:=m.Next }],Next:=m.Next+1 },m.Next) else (m,0)
theorem qe {n:Nat} (hn:bn<=n) (m:Mem) (hm:eK m) (d:bE) (hd:d.ab.length<=cL) (k:Mem->Int->Option R):iB n m d k=k (dz m d).1 (dz m d).2:=by
 have Ca:d.ab.length<=2097152:=hd
 have Wm:m.ae.length<=2097152:=hm.dp
 simp only [iB,dz,fq,iZ]
 rw [dZ hn m hm]
 have e1:decide ((40:Int)<=(m.ae.length:Int))= !decide (m.ae.length<40):=by
  by_cases h:m.ae.length<40<;>simp [h]<;>omega
 rw [e1]
 cases h1:decide (m.ae.length<40) with
 | false=>rfl
 | true =>
  cases h2:within m.Next 1 99999 with
  | false=>rfl
  | true =>
   rw [aj] at h2
   simp only [zM,zN,Bool.or_false,zF,zE,Bool.and_true,List.nil_append]
   rw [ai (cn (by omega)),ai (cn (by rw [zK,zL]; omega)),cy (by omega) (by omega)]
def aQ (m:Mem) (id:Int):Mem:={ m with ae:=m.ae.filter fun d=> !(d.Id==id) }
def jV {α β:Type} (P:α->Bool) (f:α->β) (z:β):List α->β
 | []=>z
 | x::l=>bif P x then f x else jV P f z l
theorem Av {α β:Type} (P:α->Bool) (f:α->β) (z:β) (d:α) (l:List α):∀ (s:List α) (i:Nat),s=l.drop i->i<=l.length ->
  (match (List.range' i (l.length-i)).find? (fun j=>P (l.getD j d)) with | some j=>f (l.getD j d) | none=>z)=jV P f z s
 | [],i,h,hi=>by
  have:l.length<=i:=by
   have:=congrArg List.length h; simp at this; omega
  rw [show l.length-i=0 by omega]; rfl
 | x::s,i,h,hi=>by
  have fM:i<l.length:=by
   have:=congrArg List.length h; simp at this; omega
  have hx:l.getD i d=x:=by
   have:=congrArg (fun l=>l[0]?) h
   simp only [List.getElem?_cons_zero,List.getElem?_drop,Nat.add_zero] at this
   simp [zT,← this]
  have hs:s=l.drop (i+1):=by
   have:=congrArg List.tail h
   simpa [List.tail_drop] using this
  obtain ⟨k,hk⟩:∃ k,l.length-i=k+1:=⟨l.length-i-1,by omega⟩
  rw [hk,List.range'_succ,List.find?_cons,hx]
  simp only [jV]
  cases hp:P x with
  | true=>simp only [zE,hx]
  | false =>
   have ih:=Av P f z d l s (i+1) hs (by omega)
   rw [show l.length-(i+1)=k by omega] at ih
   simp only [zF]
   exact ih
theorem vC {α:Type} {L:Nat->Int->Option R} {l:List α} (d:α) {B:Nat} {P:α->Bool} {e:α->Option R} {q:Option R} (hl:l.length<=4611686018427387904)
  (hs:∀ m i,B<m->i<l.length->L (m+1) (i:Int)=bif P (l.getD i d) then e (l.getD i d) else L m (aC ((i:Int)+1))) (hq:∀ m,L (m+1) (l.length:Int)=q)
  {n:Nat} (hn:l.length+B<n):L n 0=jV P e q l:=by
 have:=uf (R:=R) (p:=fun i=>P (l.getD i d)) (e:=fun i=>e (l.getD i.toNat d)) hl (fun m i h1 h2=>by rw [zC]; exact hs m i h1 h2) hq l.length n 0 (by omega) hn
 refine this.trans ?_
 rw [← Av P e q d l l 0 rfl (by omega),Nat.sub_zero]
 cases List.find? _ _ with
 | none=>rfl
 | some j=>simp
theorem p6 {α β γ:Type} (k:β->γ) (P:α->Bool) (f:α->β) (z:β):∀ l:List α,jV P (fun x=>k (f x)) (k z) l=k (jV P f z l)
 | []=>rfl
 | x::l=>by simp only [jV,p6 k P f z l]; cases P x<;>rfl
def iC (d:bE):Bool:=((d.Kind==2)||(d.Kind==3))||(d.Kind==4)
def eY (m:Mem) (block slot:Int):Int:=jV (fun d=>(iC d&&(d.Block==block))&&(d.Slot==slot)) (·.Id) 0 m.ae
theorem vZ {n:Nat} (hn:bn<=n) (m:Mem) (hm:m.ae.length<=cL) (block slot:Int) (k:Int->Option R):qm n m block slot k=k (eY m block slot):=by
 have K4:m.ae.length<=2097152:=hm
 have:=vC (R:=R) (L:=lP block slot m.ae (fun x=>k x) (k 0)) (l:=m.ae) aH (B:=0) (P:=fun d=>(iC d&&(d.Block==block))&&(d.Slot==slot)) (e:=fun d=>k d.Id) (q:=k 0) (by omega)
  (fun m i _ hi=>by
   simp only [lP,yh,br,aJ,hi,zV,bf,zE,zC,iC]) (fun m=>by simp [lP]) (n:=n) (aP hn (by omega))
 exact this.trans (p6 k _ _ _ _)
def ie (m:Mem) (id:Int):Int:=jV (fun d=>d.Id==id) (·.Kind) 0 m.ae
theorem AT {n:Nat} (hn:bn<=n) (id:Int) (m:Mem) (hm:m.ae.length<=cL) (k:Int->Mem->Option R):tN n id m k=k (ie m id) m:=by
 have K4:m.ae.length<=2097152:=hm
 have:=vC (R:=R) (L:=jQ id m.ae (fun x=>k x m) (k 0 m)) (l:=m.ae) aH (B:=0) (P:=fun d=>d.Id==id) (e:=fun d=>k d.Kind m) (q:=k 0 m) (by omega)
  (fun m i _ hi=>by
   simp only [jQ,br,aJ,hi,zV,bf,zE,zC]) (fun m=>by simp [jQ]) (n:=n) (aP hn (by omega))
 exact this.trans (p6 (fun x=>k x m) _ _ _ _)
theorem oY {α:Type} {L:Nat->Int->List α->Option R} {l:List α} (d:α) {P:α->Bool} {B:Nat} {q:List α->Option R} (hl:l.length<=4611686018427387904)
  (hs:∀ m i acc,B<m->i<l.length->acc.length<=i->L (m+1) (i:Int) acc=bif P (l.getD i d) then L m (aC ((i:Int)+1)) (acc++[l.getD i d]) else L m (aC ((i:Int)+1)) acc)
  (hq:∀ m acc,L (m+1) (l.length:Int) acc=q acc) {n:Nat} (hn:l.length+B<n):L n 0 []=q (l.filter P):=by
 have:=tL (R:=R) (l:=l) d (f:=fun x=>bif P x then [x] else []) (C:=1) hl (fun x _=>by cases P x<;>simp) (fun m i acc h1 h2 h3=>by
  rw [hs m i acc h1 h2 (by omega)]
  cases P (l.getD i d) with
  | true=>rfl
  | false=>simp only [zF,List.append_nil]) hq l.length n 0 [] (by omega) hn (by simp)
 rw [List.drop_zero,List.nil_append] at this
 refine this.trans ?_
 congr 1
 clear this hn hq hs hl
 induction l with
 | nil=>rfl
 | cons x l ih =>
  rw [List.flatMap_cons,ih,List.filter_cons]
  cases P x<;>rfl
theorem lM {n:Nat} (hn:bn<=n) (m:Mem) (hm:eK m) (id:Int) (k:Mem->Option R):jR n m id k=k (aQ m id):=by
 have K4:m.ae.length<=2097152:=hm.dp
 simp only [jR]
 rw [dZ hn m hm]
 have:=oY (R:=R) (L:=ij id m.ae (fun list=>k ⟨m.aa,m.ak,list,m.Next⟩)) (l:=m.ae) aH (P:=fun d=> !(d.Id==id)) (B:=0) (q:=fun list=>k ⟨m.aa,m.ak,list,m.Next⟩) (by omega)
  (fun m i acc _ hi ha=>by
   simp only [ij,br,aJ,hi,zV,bf,zE,zC]
   rw [ai (cb ha (by omega) (by simp))]) (fun m acc=>by simp [ij]) (n:=n) (aP hn (by omega))
 exact this
def c9 (m:Mem) (d:bE):Bool :=
 bif (d.Kind==1)||(d.Kind==6) then decide (0<d.Block)&&((ah m.aa d.Ino).ax.getD d.Ptr.toNat 0==d.Block)
 else bif (d.Kind==2)||(d.Kind==3) then (decide (0<d.Block)&&(aO m.aa d.Block).cp)&&(((aO m.aa d.Block).an.getD d.Slot.toNat au).Ino==d.Ino)
 else bif d.Kind==4 then (decide (0<d.Block)&&(aO m.aa d.Block).cp)&&bN d.Name else true
def bO (m:Mem) (d:bE):Bool:=within d.Id 1 (m.Next-1)&&(within d.Kind 1 6&&(within d.Ino 1 8&&(within d.Ptr 0 1&&(within d.Block 0 16&&(within d.Slot 0 3&&within d.bz 0 (m.Next-1))))))
def rO (m:Mem) (i:Nat):Bool:=bO m (m.ae.getD i aH)&&((m.ae.getD i aH).ab.all (fun p=>within p 1 16)&&((List.range' 0 i).all (fun j=> !((m.ae.getD j aH).Id==(m.ae.getD i aH).Id))&&c9 m (m.ae.getD i aH)))
def gL (m:Mem):Bool:=(n6 m.aa&&(m.ak.length==21&&(decide (m.ae.length<=40)&&within m.Next 1 100000)))&&(List.range' 0 m.ae.length).all (rO m)
structure lG (d:aa):Prop where
 bb:d.aq.ab.length=16
 bi:d.aq.bD.length=8
 di:d.ad.length=8
 db:d.ab.length=16
 ino:∀ x∈d.ad,bx x=true
 oR:∀ b∈d.ab,bF b=true
theorem lZ {d:aa}:n6 d=true↔lG d:=by
 simp only [n6,q7,zB,beq_iff_eq,List.all_eq_true]
 exact ⟨fun ⟨⟨⟨h1,h2⟩,h3,h4⟩,h5,h6⟩=>⟨h1,h2,h3,h4,h5,h6⟩,fun h=>⟨⟨⟨h.bb,h.bi⟩,h.di,h.db⟩,h.ino,h.oR⟩⟩
theorem lG.sK {d:aa} (h:lG d) {i:Int} (h1:1<=i) (h2:i<=8):bx (ah d i)=true:=h.ino _ (aY ay (by rw [h.di]; omega))
theorem lG.n9 {d:aa} (h:lG d) {p:Int} (h1:1<=p) (h2:p<=16):bF (aO d p)=true:=h.oR _ (aY aA (by rw [h.db]; omega))
theorem lG.th {d:aa} (h:lG d) {i:Int} (h1:1<=i) (h2:i<=8):(ah d i).ax.length=2:=jf (h.sK h1 h2)
theorem pO {b:Block} (h:bF b=true) (hd:b.cp=true):b.an.length=4:=by
 simp only [bF,hd,zE,zB,beq_iff_eq] at h
 exact h.1.1
theorem FI {n:Nat} (hn:bn<=n) (m:Mem) (hd:lG m.aa) (el:bE) (mi:el.Name.size<=cL) (hK:1<=el.Kind/\el.Kind<=6) (hI:1<=el.Ino/\el.Ino<=8) (hP:0<=el.Ptr/\el.Ptr<=1) (hB:0<=el.Block/\el.Block<=16) (hS:0<=el.Slot/\el.Slot<=3)
  (T:(Bool->Option R)->Option R) (k:Bool->Option R)
  (h1:el.Kind=1\/el.Kind=6->T k=aK (!(decide (0<el.Block))||(bc (aC (el.Ino-1)) m.aa.ad.length)) (aK (!(decide (0<el.Block))||(bc el.Ptr (((m.aa.ad.getD ((aC (el.Ino-1)).toNat) ay).ax).length))) (k ((decide (0<el.Block))&&((((m.aa.ad.getD ((aC (el.Ino-1)).toNat) ay).ax).getD el.Ptr.toNat 0)==el.Block)))))
  (h2:el.Kind=2\/el.Kind=3->T k=aK (!(decide (0<el.Block))||(bc (aC (el.Block-1)) m.aa.ab.length)) (aK (!((decide (0<el.Block))&&((m.aa.ab.getD ((aC (el.Block-1)).toNat) aA).cp))||(bc (aC (el.Block-1)) m.aa.ab.length))
   (aK (!((decide (0<el.Block))&&((m.aa.ab.getD ((aC (el.Block-1)).toNat) aA).cp))||(bc el.Slot (((m.aa.ab.getD ((aC (el.Block-1)).toNat) aA).an).length)))
   (k (((decide (0<el.Block))&&((m.aa.ab.getD ((aC (el.Block-1)).toNat) aA).cp))&&(((((m.aa.ab.getD ((aC (el.Block-1)).toNat) aA).an).getD el.Slot.toNat au).Ino)==el.Ino))))))
  (h4:el.Kind=4->T k=aK (!(decide (0<el.Block))||(bc (aC (el.Block-1)) m.aa.ab.length)) (kt n el.Name fun r =>
   k (((decide (0<el.Block))&&((m.aa.ab.getD ((aC (el.Block-1)).toNat) aA).cp))&&(bif (decide (0<el.Block))&&((m.aa.ab.getD ((aC (el.Block-1)).toNat) aA).cp) then r else false))))
  (h5:el.Kind=5->T k=k true):T k=k (c9 m el):=by
 have wi:aC (el.Ino-1)=el.Ino-1:=bR (by omega) (by omega)
 have wb:aC (el.Block-1)=el.Block-1:=bR (by omega) (by omega)
 have ri:bc (el.Ino-1) m.aa.ad.length=true:=bB hI.1 (by rw [hd.di]; omega)
 have abX:(ah m.aa el.Ino).ax.length=2:=hd.th hI.1 hI.2
 have rp:bc el.Ptr (ah m.aa el.Ino).ax.length=true:=by rw [abX]; simp only [bc,zB,zD]; omega
 have rb:decide (0<el.Block)=true->bc (el.Block-1) m.aa.ab.length=true:=fun h=>bB (of_decide_eq_true h) (by rw [hd.db]; omega)
 have rb':(!(decide (0<el.Block))||bc (el.Block-1) m.aa.ab.length)=true:=by
  cases h:decide (0<el.Block) with
  | false=>rfl
  | true=>rw [rb h]; rfl
 have rs:(!((decide (0<el.Block))&&(aO m.aa el.Block).cp)||bc el.Slot (aO m.aa el.Block).an.length)=true:=by
  cases h:decide (0<el.Block) with
  | false=>rfl
  | true =>
   cases MS:(aO m.aa el.Block).cp with
   | false=>rfl
   | true =>
    rw [pO (hd.n9 (of_decide_eq_true h) hB.2) MS]
    simp only [bc,Bool.and_true,zM,Bool.false_or,zB,zD]; omega
 have rb2:(!((decide (0<el.Block))&&(aO m.aa el.Block).cp)||bc (el.Block-1) m.aa.ab.length)=true:=by
  cases h:decide (0<el.Block) with
  | false=>rfl
  | true=>rw [rb h]; simp
 rcases show el.Kind=1\/el.Kind=2\/el.Kind=3\/el.Kind=4\/el.Kind=5\/el.Kind=6 by omega with h | h | h | h | h | h
 ·rw [h1 (.inl h),wi]
  simp only [c9,h]
  rw [ri,Bool.or_true,bf]
  exact (ai (by show (!_||bc el.Ptr (ah m.aa el.Ino).ax.length)=true; rw [rp,Bool.or_true])).trans rfl
 ·rw [h2 (.inl h),wb]
  simp only [c9,h]
  rw [rb',bf]
  exact (ai rb2).trans ((ai rs).trans rfl)
 ·rw [h2 (.inr h),wb]
  simp only [c9,h]
  rw [rb',bf]
  exact (ai rb2).trans ((ai rs).trans rfl)
 ·rw [h4 h,wb,rb',bf,uo hn _ mi]
  simp only [c9,h]
  show k _=k (((decide (0<el.Block))&&(aO m.aa el.Block).cp)&&bN el.Name)
  congr 1
  show (((decide (0<el.Block))&&(aO m.aa el.Block).cp)&&(bif ((decide (0<el.Block))&&(aO m.aa el.Block).cp) then bN el.Name else false))=_
  cases ((decide (0<el.Block))&&(aO m.aa el.Block).cp)<;>rfl
 ·rw [h5 h]
  simp only [c9,h]; rfl
 ·rw [h1 (.inr h),wi]
  simp only [c9,h]
  rw [ri,Bool.or_true,bf]
  exact (ai (by show (!_||bc el.Ptr (ah m.aa el.Ino).ax.length)=true; rw [rp,Bool.or_true])).trans rfl
theorem Lo {n:Nat} (hn:bn<=n) (m:Mem) (hm:eK m) (hd:lG m.aa) (hnx:1<=m.Next/\m.Next<=100000) (i:Nat) (hi:i<m.ae.length) (k:Bool->Option R):wD n m (i:Int) k=k (rO m i):=by
 have Ck:m.ae.length<=2097152:=hm.dp
 have MX:=hm.dep _ (aY aH hi)
 have Zo:(m.ae.getD i aH).ab.length<=2097152:=MX.2
 simp only [wD,iZ,aJ,hi,zV,bf,zC,rO,bO]
 rw [bR (by omega) (by omega)]
 obtain ⟨el,he⟩:∃ el,m.ae.getD i aH=el:=⟨_,rfl⟩
 simp only [he] at MX Zo ⊢
 cases h1:within el.Id 1 (m.Next-1); · rfl
 cases h2:within el.Kind 1 6; · rfl
 cases h3:within el.Ino 1 8; · rfl
 cases h4:within el.Ptr 0 1; · rfl
 cases h5:within el.Block 0 16; · rfl
 cases h6:within el.Slot 0 3; · rfl
 cases h7:within el.bz 0 (m.Next-1); · rfl
 simp only [zM,zN,zE,zF,Bool.or_false,Bool.true_and]
 rw [aj] at h2 h3 h4 h5 h6
 have tail:=FI (R:=R) hn m hd el MX.1 h2 h3 h4 h5 h6
 generalize hQ:(bif (el.Kind==1) then _ else _:Option R)=Q
 have hq:Q=k (c9 m el):=by
  refine tail (fun _=>Q) k ?_ ?_ ?_ ?_
  ·rintro (h | h)<;>(rw [← hQ]; simp only [h]; rfl)
  ·rintro (h | h)<;>(rw [← hQ]; simp only [h]; rfl)
  ·intro h; rw [← hQ]; simp only [h]; rfl
  ·intro h; rw [← hQ]; simp only [h]; rfl
 have l2:=mA (R:=R) (L:=fx (i:Int) el.Id m.ae (fun x=>k x) Q) (len:=i) (B:=0) (p:=fun j=> !((m.ae.getD j aH).Id==el.Id)) (e:=k false) (q:=Q) (by omega)
  (fun m' j _ hj=>by
   simp only [fx,br,aJ,hj,zV,zE,zC]
   rw [show decide (j<m.ae.length)=true by simp; omega,bf]
   cases (m.ae.getD j aH).Id==el.Id<;>rfl) (fun m'=>by simp [fx]) i n 0 (by omega) (aP hn (by omega))
 have l1:=iG (R:=R) (L:=kP el.ab (fun x=>k x) (fx (i:Int) el.Id m.ae (fun x=>k x) Q n 0)) (l:=el.ab) 0 (B:=0) (P:=fun p=>within p 1 16) (e:=k false) (q:=fx (i:Int) el.Id m.ae (fun x=>k x) Q n 0) (by omega)
  (fun m' j _ hj=>by
   simp only [kP,iZ,br,aJ,hj,zV,zE,bf,zC]
   cases within (el.ab.getD j 0) 1 16<;>rfl) (fun m'=>by simp [kP]) (n:=n) (aP hn (by omega))
 refine l1.trans ?_
 have l2':fx (i:Int) el.Id m.ae (fun x=>k x) Q n 0=_:=l2
 rw [l2',hq]
 cases List.all el.ab _<;>cases List.all (List.range' 0 i) _<;>rfl
theorem ov {n:Nat} (hn:bn<=n) (m:Mem) (hm:eK m) (k:Bool->Option R):mn n m k=k (gL m):=by
 have Ck:m.ae.length<=2097152:=hm.dp
 simp only [mn,iZ,gL]
 rw [xB hn _ hm.d,show (21:Int)=((21:Nat):Int) from rfl,dN,show decide ((40:Int)<(m.ae.length:Int))= !decide (m.ae.length<=40) by by_cases h:m.ae.length<=40<;>simp [h]<;>omega]
 cases h1:n6 m.aa; · rfl
 cases h2:m.ak.length==21; · rfl
 cases h3:decide (m.ae.length<=40); · rfl
 cases h4:within m.Next 1 100000; · rfl
 simp only [zM,zN,zE,zF,Bool.or_false,Bool.true_and]
 rw [aj] at h4
 have hd:=lZ.1 h1
 have:=mA (R:=R) (L:=lW n m.Next m.aa.aq.ab m.aa.aq.bD m.aa.ad m.aa.ab m.ak m.ae (fun x=>k x) (k true)) (len:=m.ae.length) (B:=0) (p:=rO m) (e:=k false) (q:=k true) (by omega)
  (fun m' j _ hj=>by
   simp only [lW,br,hj,zV,zE]
   rw [Lo hn m hm hd h4 j hj]
   cases rO m j<;>rfl) (fun m'=>by simp [lW]) m.ae.length n 0 (by omega) (aP hn (by omega))
 refine this.trans ?_
 cases List.all _ (rO m)<;>rfl
theorem fh {α:Type} (l:List α) (d:α) {i:Nat} (h:i<l.length):l.getD i d=l[i]:=by simp [zT,h]
def od:List UInt8->List UInt8->List ByteArray
 | cur,[]=>[yT cur]
 | cur,c::l=>bif c==47 then yT cur::od [] l else od (cur++[c]) l
def aN (p:ByteArray):List ByteArray×Bool:=match p.data.toList with
 | []=>([],false)
 | c::l=>bif c==47 then (match l with
  | []=>([],true)
  | l=>bif (od [] l).all bN&&decide ((od [] l).length<=4) then (od [] l,true) else ([],false)) else ([],false)
theorem Al (p:ByteArray) (b i:Nat) (h:b<=i):p.extract b i=yT ((p.data.toList.drop b).take (i-b)):=by
 apply ByteArray.ext
 apply Array.ext'
 simp only [ByteArray.data_extract,yT,Array.toList_extract,List.extract_eq_take_drop]
theorem vj {n:Nat} (hn:bn<=n) (p:ByteArray) (hp:p.size<=cL) (q0:Bool->List ByteArray->Option R) (q1:List ByteArray->Option R):∀ (rest cur:List UInt8) (b i m:Nat) (out:List ByteArray),p.data.toList.drop i=rest->cur=(p.data.toList.drop b).take (i-b)->b<=i->i<=p.size ->
  rest.length+1<m->out.length<=i->fP n p q0 q1 m (b:Int) (i:Int) out=bif (od cur rest).all bN then q1 (out++od cur rest) else q0 false []
 | [],cur,b,i,m,out,h1,h2,h3,h4,h5,h6=>by
  have yp:p.size<=2097152:=hp
  have hi:i=p.size:=by
   have:=congrArg List.length h1; rw [List.length_drop] at this
   have:p.data.toList.length=p.size:=rfl
   simp at *; omega
  match m,h5 with
  | m+2,_ =>
   simp only [fP,br,od,List.all_cons,List.all_nil,Bool.and_true]
   rw [show decide ((i:Int)<=(p.size:Int))=true by simp; omega,bw,show decide (i<p.size)=false by simp; omega]
   simp only [zN,Bool.true_or,bf,Bool.false_and,zF,zC]
   rw [Al p b i h3,← h2,ai (by simp only [j7,zB,zD]; omega),uo hn _ (by
    have:cur.length<=i-b:=by rw [h2,List.length_take]; omega
    show cur.length<=2097152; omega)]
   cases bN (yT cur) with
   | false=>rfl
   | true =>
    simp only [zM,zF,zE]
    rw [ai (by simp only [j7,zB,zD]; omega),ai (cb h6 (by omega) (by simp)),bH (by omega),show decide (((i+1:Nat):Int)<=(p.size:Int))=false by simp; omega]
    rfl
 | c::rest,cur,b,i,m,out,h1,h2,h3,h4,h5,h6=>by
  have yp:p.size<=2097152:=hp
  have mi:p.data.toList.length=p.size:=rfl
  have hi:i<p.data.toList.length:=by
   have:=congrArg List.length h1; rw [List.length_drop] at this; simp at this ⊢; omega
  have hc:p.data.toList.getD i 0=c:=by
   have:=cK (0:UInt8) hi; rw [h1] at this; injection this with h _; exact h.symm
  have hr:p.data.toList.drop (i+1)=rest:=by
   have:=cK (0:UInt8) hi; rw [h1] at this; injection this with _ h; exact h.symm
  have mS:cur++[c]=(p.data.toList.drop b).take (i+1-b):=by
   rw [show i+1-b=(i-b)+1 by omega,List.take_add_one,← h2]
   congr 1
   rw [List.getElem?_drop,show b+(i-b)=i by omega,List.getElem?_eq_getElem hi]
   have:p.data.toList[i]=c:=by rw [← hc]; exact (fh _ 0 hi).symm
   rw [this]; rfl
  match m,h5 with
  | m+1,h5 =>
   have tw:i<p.size:=by omega
   simp only [fP,br,aJ,od]
   rw [show decide ((i:Int)<=(p.size:Int))=true by simp; omega,bw,decide_eq_true tw]
   simp only [Bool.or_true,bf,Bool.true_and,zC,Kz,hc]
   have VA:(((c.toNat:Nat):Int)==47)=(c==47):=by
    rw [show (47:Int)=((47:Nat):Int) from rfl,dN]
    cases h:c==47 with
    | true=>rw [beq_iff_eq] at h; subst h; rfl
    | false =>
     rw [beq_eq_false_iff_ne] at h ⊢
     intro h2; apply h; exact UInt8.toNat_inj.1 h2
   rw [VA]
   cases h47:c==47 with
   | false =>
    simp only [zN,zE,zF]
    rw [bH (by omega)]
    exact vj hn p hp q0 q1 rest (cur++[c]) b (i+1) m out hr mS (by omega) (by omega) (by simp at h5; omega) (by omega)
   | true =>
    simp only [zM,zE,zF]
    rw [Al p b i h3,← h2,ai (by simp only [j7,zB,zD]; omega),uo hn _ (by
     have:cur.length<=i-b:=by rw [h2,List.length_take]; omega
     show cur.length<=2097152; omega)]
    rw [List.all_cons]
    cases bN (yT cur) with
    | false=>rfl
    | true =>
     simp only [zM,zF,Bool.true_and]
     rw [ai (by simp only [j7,zB,zD]; omega),ai (cb h6 (by omega) (by simp)),bH (by omega),
      vj hn p hp q0 q1 rest [] (i+1) (i+1) m _ hr (by simp) (by omega) (by omega) (by simp at h5; omega) (by rw [zK,zL]; omega),List.append_assoc]
     rfl
theorem C6 {a:ByteArray} {l:List UInt8}:a=yT l↔a.data.toList=l:=by
 constructor
 ·rintro rfl; rfl
 ·intro h; apply ByteArray.ext; apply Array.ext'; exact h
theorem nz {n:Nat} (hn:bn<=n) (p:ByteArray) (hp:p.size<=cL) (k:List ByteArray->Bool->Option R):jr n p k=k (aN p).1 (aN p).2:=by
 have yp:p.size<=2097152:=hp
 simp only [jr,aN]
 have mi:p.data.toList.length=p.size:=rfl
 cases hl:p.data.toList with
 | nil =>
  have:p.size=0:=by rw [← mi,hl]; rfl
  rw [this]; rfl
 | cons c l =>
  have h0:p.size=l.length+1:=by rw [← mi,hl]; rfl
  have hz:((p.size:Int)==0)=false:=by rw [h0]; simp; omega
  have hb:bt p 0=c.toNat:=by rw [Kz,hl]; rfl
  have VA:(((c.toNat:Nat):Int)==47)=(c==47):=by
   rw [show (47:Int)=((47:Nat):Int) from rfl,dN]
   cases h:c==47 with
   | true=>rw [beq_iff_eq] at h; subst h; rfl
   | false =>
    rw [beq_eq_false_iff_ne] at h ⊢
    intro h2; apply h; exact UInt8.toNat_inj.1 h2
  rw [hz,hb,VA,show bc (0:Int) p.size=true by simp [bc]; omega]
  simp only [Bool.or_true,bf,Bool.false_or]
  cases h47:c==47 with
  | false=>rfl
  | true =>
   simp only [zM,zF,zE]
   rw [beq_iff_eq] at h47; subst h47
   cases l with
   | nil =>
    have:(p==S [47])=true:=by rw [beq_iff_eq]; exact C6.2 hl
    rw [this]; rfl
   | cons d l =>
    have:(p==S [47])=false:=by
     rw [beq_eq_false_iff_ne]; intro h
     have h2:p.data.toList=[47]:=C6.1 h
     rw [hl] at h2; injection h2 with _ h2; cases h2
    rw [this]
    have:=vj (R:=R) hn p hp (fun x kD=>k kD x) (fun out=>bif (decide (4<(out.length:Int))) then k ([]) false else k out true) (d::l) [] 1 1 n [] (by rw [hl]; rfl) (by simp) (by omega) (by omega) (aP hn (by simp only [zR] at h0 ⊢; omega)) (by simp)
    simp only [zF]
    refine this.trans ?_
    rw [List.nil_append]
    cases h1:(od [] (d::l)).all bN with
    | false=>rfl
    | true =>
     rw [show decide ((4:Int)<((od [] (d::l)).length:Int))= !decide ((od [] (d::l)).length<=4) by by_cases h:(od [] (d::l)).length<=4<;>simp [h]<;>omega]
     cases decide ((od [] (d::l)).length<=4)<;>rfl
def eX (l:List ByteArray):ByteArray:=l.foldl (fun s x=>(s++S [47])++x) eS
def ao (p:ByteArray):ByteArray×ByteArray×Bool:=bif !(aN p).2||(aN p).1.length==0 then (eS,eS,false) else
 (bif eX (aN p).1.dropLast==eS then S [47] else eX (aN p).1.dropLast,(aN p).1.getD ((aN p).1.length-1) eS,true)
theorem m5 (p:ByteArray):(aN p=([],false))\/(aN p=([],true))\/((aN p).2=true/\(aN p).1.all bN=true/\(aN p).1.length<=4):=by
 simp only [aN]
 cases p.data.toList with
 | nil=>exact .inl rfl
 | cons c l =>
  dsimp only
  generalize (c==47)=z
  cases z with
  | false=>exact .inl rfl
  | true =>
   cases l with
   | nil=>exact .inr (.inl rfl)
   | cons d l =>
    dsimp only
    generalize od [] (d::l)=ss
    cases h1:ss.all bN&&decide (ss.length<=4) with
    | false=>exact .inl rfl
    | true =>
     simp only [zB,zD] at h1
     exact .inr (.inr ⟨rfl,h1.1,h1.2⟩)
theorem m7 {p:ByteArray} (h:(aN p).2=true):(aN p).1.all bN=true/\(aN p).1.length<=4:=by
 rcases m5 p with h1 | h1 | h1
 ·rw [h1] at h; cases h
 ·rw [h1]; exact ⟨rfl,by simp⟩
 ·exact h1.2
theorem uI:∀ (l:List ByteArray) (a:ByteArray),(∀ x∈l,x.size<=6)->(l.foldl (fun s x=>(s++S [47])++x) a).size<=a.size+7*l.length
 | [],a,_=>by simp
 | x::l,a,h=>by
  have h1:=h x zO
  have h2:=uI l ((a++S [47])++x) fun y hy=>h y (zJ _ hy)
  have h3:(S [47]).size=1:=rfl
  rw [List.foldl_cons,zR]
  rw [ByteArray.size_append,ByteArray.size_append,h3] at h2
  omega
theorem o4 {n:Nat} (hn:bn<=n) (p:ByteArray) (hp:p.size<=cL) (k:ByteArray->ByteArray->Bool->Option R):kI n p k=k (ao p).1 (ao p).2.1 (ao p).2.2:=by
 simp only [kI,ao]
 rw [nz hn p hp]
 cases h2:(aN p).2 with
 | false=>rfl
 | true =>
  obtain ⟨Fk,hlen⟩:=m7 h2
  generalize (aN p).1=l at *
  rw [show (0:Int)=((0:Nat):Int) from rfl,dN]
  cases hl:l.length==0 with
  | true=>rfl
  | false =>
   have QJ:l.length≠0:=by simpa using hl
   have mi:∀ x∈l,x.size<=6:=fun x hx=>(eW (List.all_eq_true.1 Fk x hx)).2
   simp only [zM,Bool.false_or,zF]
   have hS:(S [47]).size=1:=rfl
   have loop:∀ (j m i:Nat) (a:ByteArray) (q:ByteArray->Option R),i+j+1=l.length->j<m->a.size<=7*i->iR l q m a (i:Int)=q ((l.dropLast.drop i).foldl (fun s x=>(s++S [47])++x) a):=by
    intro j
    induction j with
    | zero =>
     intro m i a q h1 h2 h3
     cases m with
     | zero=>omega
     | succ m =>
      simp only [iR]
      rw [bH (by omega),br,show decide (i+1<l.length)=false by simp; omega,List.drop_of_length_le (by simp; omega)]
      rfl
    | succ j ih =>
     intro m i a q h1 h2 h3
     cases m with
     | zero=>omega
     | succ m =>
      have hi:i<l.length:=by omega
      have hx:=mi _ (aY eS hi)
      have Ck:i<l.dropLast.length:=by simp; omega
      simp only [iR,aJ,zC]
      rw [bH (by omega),br,show decide (i+1<l.length)=true by simp; omega,decide_eq_true hi,bw,bf,ai (iK (by omega)),ai (iK (by rw [ByteArray.size_append]; omega)),
       ih m (i+1) _ q (by omega) (by omega) (by rw [ByteArray.size_append,ByteArray.size_append]; omega),cK eS Ck,List.foldl_cons]
      congr 3
      rw [fh _ _ hi,fh _ _ Ck,List.getElem_dropLast]
   have:=loop (l.length-1) n 0 eS (fun s=>bif s==eS then aK (bc (aC ((l.length:Int)-1)) l.length) (k (S [47]) (l.getD ((aC ((l.length:Int)-1)).toNat) eS) true) else aK (bc (aC ((l.length:Int)-1)) l.length) (k s (l.getD ((aC ((l.length:Int)-1)).toNat) eS) true)) (by omega) (aP hn (by omega)) (by decide)
   refine this.trans ?_
   rw [List.drop_zero,bR (by omega) (by omega),ai (bB (by omega) (by omega)),ai (bB (by omega) (by omega)),show ((l.length:Int)-1).toNat=l.length-1 by omega]
   show (bif eX l.dropLast==eS then _ else _)=_
   cases eX l.dropLast==eS<;>rfl
def fX (d:aa) (name:ByteArray):List Int->Int×Int×Int
 | []=>(0,0,0)
 | p::l=>bif ((dw d p).2&&(dw d p).1.cp)&&decide (0<=fe (dw d p).1 name) then (p,fe (dw d p).1 name,((dw d p).1.an.getD (fe (dw d p).1 name).toNat au).Ino) else fX d name l
def find (d:aa) (i:Int) (name:ByteArray):Int×Int×Int:=bif within i 1 d.ad.length&&(ah d i).Kind==2 then fX d name (ah d i).ax else (0,0,0)
theorem C2 {b:Block} {name:ByteArray} (h:0<=fe b name):(fe b name).toNat<b.an.length:=by
 revert h; simp only [fe]
 cases name==eS with
 | true=>intro h; simp at h
 | false =>
  simp only [zF]
  rcases fN (fun s:Slot=>s.Name==name) b.an with h | ⟨j,h,hj⟩<;>rw [h]<;>intro h2
  ·omega
  ·omega
theorem Ld {d:aa} (hd:kj d) (p:Int):(dw d p).1.an.length<=cL:=by
 simp only [dw]
 cases h:within p 1 d.ab.length with
 | false=>exact Nat.zero_le _
 | true =>
  rw [aj] at h
  exact (hd.oR _ (aY aA (by omega))).1
theorem qF {n:Nat} (hn:bn<=n) (d:aa) (hd:kj d) (i:Int) (name:ByteArray) (k:Int->Int->Int->Option R):lQ n d i name k=k (find d i name).1 (find d i name).2.1 (find d i name).2.2:=by
 have PB:d.ad.length<=2097152:=hd.di
 simp only [lQ,iZ,find]
 cases hw:within i 1 d.ad.length with
 | false=>rfl
 | true =>
  rw [aj] at hw
  rw [bR (by omega) (by omega),bB hw.1 hw.2]
  simp only [Bool.or_true,bf,zM,Bool.false_or,Bool.true_and]
  show (bif !((ah d i).Kind==2) then _ else _)=_
  cases hk:(ah d i).Kind==2 with
  | false=>rfl
  | true =>
   have Hs:(ah d i).ax.length<=2097152:=hd.ino _ (aY ay (by omega))
   simp only [zM,zF,zE]
   have loop:∀ (ps:List Int) (j m:Nat),ps=(ah d i).ax.drop j->j<=(ah d i).ax.length->ps.length<m->jT n name d.aq.ab d.aq.bD d.ad d.ab (ah d i).ax (fun x kD Ci=>k x kD Ci) (k 0 0 0) m (j:Int)=k (fX d name ps).1 (fX d name ps).2.1 (fX d name ps).2.2:=by
    intro ps
    induction ps with
    | nil =>
     intro j m h1 h2 h3
     have:j=(ah d i).ax.length:=by have:=congrArg List.length h1; simp at this; omega
     cases m with
     | zero=>simp at h3
     | succ m=>simp [jT,fX,this]
    | cons p ps ih =>
     intro j m h1 h2 h3
     have hj:j<(ah d i).ax.length:=by have:=congrArg List.length h1; simp at this; omega
     have Qa:=cK (0:Int) hj
     rw [← h1] at Qa; injection Qa with Vm M5
     cases m with
     | zero=>simp at h3
     | succ m =>
      simp only [jT,br,aJ,hj,zV,zE,bf,zC,← Vm]
      rw [show (⟨⟨d.aq.ab,d.aq.bD⟩,d.ad,d.ab⟩:aa)=d from rfl,yA d hd.db,DK hn _ (Ld hd p)]
      simp only [fX]
      cases hc:((dw d p).2&&(dw d p).1.cp)&&decide (0<=fe (dw d p).1 name) with
      | false =>
       simp only [zF]
       rw [bH (by omega)]
       exact ih (j+1) m M5 (by omega) (by simp at h3; omega)
      | true =>
       simp only [zB,zD] at hc
       have:=C2 hc.2
       simp only [zE]
       rw [ai (by simp only [bc,zB,zD]; omega)]
   exact loop _ 0 n (by simp) (by omega) (aP hn (by omega))
def cA (d:aa):Int->List ByteArray->Int
 | i,[]=>i
 | i,x::l=>bif within (find d i x).2.2 1 d.ad.length then cA d (find d i x).2.2 l else 0
def aD (d:aa) (p:ByteArray):Int:=bif (aN p).2 then cA d 1 (aN p).1 else 0
theorem jg {n:Nat} (hn:bn<=n) (d:aa) (hd:kj d) (p:ByteArray) (hp:p.size<=cL) (k:Int->Option R):gF n d p k=k (aD d p):=by
 simp only [gF,aD]
 rw [nz hn p hp]
 cases h2:(aN p).2 with
 | false=>rfl
 | true =>
  obtain ⟨Fk,hlen⟩:=m7 h2
  generalize (aN p).1=l at *
  simp only [zM,zF,zE]
  have loop:∀ (ps:List ByteArray) (j m:Nat) (i:Int),ps=l.drop j->j<=l.length->ps.length<m->iH n l d.aq.ab d.aq.bD d.ad d.ab (fun x=>k x) (fun i=>k i) m i (j:Int)=k (cA d i ps):=by
   intro ps
   induction ps with
   | nil =>
    intro j m i h1 h2 h3
    have:j=l.length:=by have:=congrArg List.length h1; simp at this; omega
    cases m with
    | zero=>simp at h3
    | succ m=>simp [iH,cA,this]
   | cons p ps ih =>
    intro j m i h1 h2 h3
    have hj:j<l.length:=by have:=congrArg List.length h1; simp at this; omega
    have Qa:=cK eS hj
    rw [← h1] at Qa; injection Qa with Vm M5
    cases m with
    | zero=>simp at h3
    | succ m =>
     simp only [iH,iZ,br,aJ,hj,zV,zE,bf,zC,← Vm]
     rw [show (⟨⟨d.aq.ab,d.aq.bD⟩,d.ad,d.ab⟩:aa)=d from rfl,qF hn d hd]
     simp only [cA]
     cases hc:within (find d i p).2.2 1 d.ad.length with
     | false=>rfl
     | true =>
      simp only [zM,zF,zE]
      rw [bH (by omega)]
      exact ih (j+1) m _ M5 (by omega) (by simp at h3; omega)
  exact loop _ 0 n 1 (by simp) (by omega) (aP hn (by omega))
def waits (m:Mem) (dir:Int) (name:ByteArray):Bool:=m.ae.any fun d=>(((d.Kind==4)&&decide (0<d.bz))&&(d.Name==name))&&has (ah m.aa dir).ax d.Block
theorem yP {n:Nat} (hn:bn<=n) (m:Mem) (hm:m.ae.length<=cL) (hd:m.aa.ad.length<=cL) (dir:Int) (h1:1<=dir) (h2:dir<=m.aa.ad.length) (hp:(ah m.aa dir).ax.length<=cL) (name:ByteArray) (k:Bool->Option R) :
  qn n m dir name k=k (waits m dir name):=by
 have K4:m.ae.length<=2097152:=hm
 have Ca:m.aa.ad.length<=2097152:=hd
 have:=iG (R:=R) (L:=iL n dir name m.aa.ad m.ae (fun x=>k x) (k false)) (l:=m.ae) aH (B:=0) (P:=fun d=> !((((d.Kind==4)&&decide (0<d.bz))&&(d.Name==name))&&has (ah m.aa dir).ax d.Block)) (e:=k true) (q:=k false) (by omega)
  (fun m' i _ hi=>by
   simp only [iL,br,aJ,hi,zV,bf,zE,zC]
   rw [bR (by omega) (by omega),bB h1 h2,Bool.or_true,bf]
   refine (xR hn (ah m.aa dir).ax hp _ _).trans ?_
   generalize ((((m.ae.getD i aH).Kind==4)&&decide (0<(m.ae.getD i aH).bz))&&((m.ae.getD i aH).Name==name))=c
   generalize has (ah m.aa dir).ax (m.ae.getD i aH).Block=x
   cases c<;>cases x<;>rfl) (fun m'=>by simp [iL]) (n:=n) (aP hn (by omega))
 refine this.trans ?_
 rw [zy (fun d:bE=>(((d.Kind==4)&&decide (0<d.bz))&&(d.Name==name))&&has (ah m.aa dir).ax d.Block),waits]
 cases m.ae.any _<;>rfl
def held (m:Mem) (i:Int):Bool:=m.ae.any fun d=>((d.Kind==4)&&decide (0<d.bz))&&has (ah m.aa i).ax d.Block
theorem HY {n:Nat} (hn:bn<=n) (m:Mem) (hm:m.ae.length<=cL) (hd:m.aa.ad.length<=cL) (dir:Int) (h1:1<=dir) (h2:dir<=m.aa.ad.length) (hp:(ah m.aa dir).ax.length<=cL) (k:Bool->Option R) :
  xE n m dir k=k (held m dir):=by
 have K4:m.ae.length<=2097152:=hm
 have Ca:m.aa.ad.length<=2097152:=hd
 have:=iG (R:=R) (L:=jG n dir m.aa.ad m.ae (fun x=>k x) (k false)) (l:=m.ae) aH (B:=0) (P:=fun d=> !(((d.Kind==4)&&decide (0<d.bz))&&has (ah m.aa dir).ax d.Block)) (e:=k true) (q:=k false) (by omega)
  (fun m' i _ hi=>by
   simp only [jG,br,aJ,hi,zV,bf,zE,zC]
   rw [bR (by omega) (by omega),bB h1 h2,Bool.or_true,bf]
   refine (xR hn (ah m.aa dir).ax hp _ _).trans ?_
   generalize (((m.ae.getD i aH).Kind==4)&&decide (0<(m.ae.getD i aH).bz))=c
   generalize has (ah m.aa dir).ax (m.ae.getD i aH).Block=x
   cases c<;>cases x<;>rfl) (fun m'=>by simp [jG]) (n:=n) (aP hn (by omega))
 refine this.trans ?_
 rw [zy (fun d:bE=>((d.Kind==4)&&decide (0<d.bz))&&has (ah m.aa dir).ax d.Block),held]
 cases m.ae.any _<;>rfl
def o6 (b:Block):List ByteArray:=bif b.cp then (b.an.filter fun s=> !(s.Name==eS)).map (·.Name) else []
def o7 (d:aa) (i:Int):List ByteArray:=bif within i 1 d.ad.length&&(ah d i).Kind==2 then (ah d i).ax.flatMap fun p=>o6 (dw d p).1 else []
theorem Ho (b:Block):(o6 b).length<=b.an.length:=by
 simp only [o6]
 cases b.cp with
 | false=>simp
 | true=>simp only [zE,List.length_map]; exact List.length_filter_le _ _
theorem CF (b:Block) (hb:b.an.length<=2097152) (q:List ByteArray->Option R) (m:Nat) (hm:b.an.length<m) (acc:List ByteArray) (ha:acc.length<=1000000000):eQ b.cp b.an q m 0 acc=q (acc++o6 b):=by
 cases hd:b.cp with
 | false =>
  cases m with
  | zero=>omega
  | succ m=>simp [eQ,o6,hd]
 | true =>
  have loop:∀ (ss:List Slot) (j m:Nat) (acc:List ByteArray),ss=b.an.drop j->j<=b.an.length->ss.length<m->acc.length<=1000000000+j->eQ true b.an q m (j:Int) acc=q (acc++(ss.filter fun s=> !(s.Name==eS)).map (·.Name)):=by
   intro ss
   induction ss with
   | nil =>
    intro j m acc h1 h2 h3 h4
    have:j=b.an.length:=by have:=congrArg List.length h1; simp at this; omega
    cases m with
    | zero=>simp at h3
    | succ m=>simp [eQ,this]
   | cons s ss ih =>
    intro j m acc h1 h2 h3 h4
    have hj:j<b.an.length:=by have:=congrArg List.length h1; simp at this; omega
    have Qa:=cK au hj
    rw [← h1] at Qa; injection Qa with Vm M5
    cases m with
    | zero=>simp at h3
    | succ m =>
     simp only [eQ,br,aJ,hj,zV,zE,bf,zC,← Vm,Bool.true_and,List.filter_cons]
     rw [bH (by omega)]
     cases hs:s.Name==eS with
     | true =>
      simp only [zM,zF]
      rw [ih (j+1) m acc M5 (by omega) (by simp at h3; omega) (by omega)]
      rfl
     | false =>
      simp only [zN,zE]
      rw [ai (cn (by rw [zK,zL]; omega)),ih (j+1) m _ M5 (by omega) (by simp at h3; omega) (by rw [zK,zL]; omega),List.append_assoc]
      rfl
  have:=loop b.an 0 m acc (by simp) (by omega) hm (by omega)
  simp only [o6,hd,zE]
  exact this
theorem Ib {n:Nat} (hn:bn<=n) (d:aa) (hd:kj d) (i:Int) (hp:∀ x∈d.ad,x.ax.length<=2) (hb:∀ b∈d.ab,b.an.length<=4) (k:List ByteArray->Option R):uc n d i k=k (o7 d i):=by
 have PB:d.ad.length<=2097152:=hd.di
 simp only [uc,iZ,o7]
 cases hw:within i 1 d.ad.length with
 | false=>rfl
 | true =>
  rw [aj] at hw
  rw [bR (by omega) (by omega),bB hw.1 hw.2]
  simp only [Bool.or_true,bf,zM,Bool.false_or,Bool.true_and]
  show (bif !((ah d i).Kind==2) then _ else _)=_
  cases hk:(ah d i).Kind==2 with
  | false=>rfl
  | true =>
   have Hs:(ah d i).ax.length<=2:=hp _ (aY ay (by omega))
   have QE:∀ p,(dw d p).1.an.length<=4:=by
    intro p
    simp only [dw]
    cases h:within p 1 d.ab.length with
    | false=>exact Nat.zero_le _
    | true=>rw [aj] at h; exact hb _ (aY aA (by omega))
   simp only [zM,zF,zE]
   have:=tL (R:=R) (L:=jU d.aq.ab d.aq.bD d.ad d.ab (ah d i).ax (fun out=>k out)) (l:=(ah d i).ax) 0 (f:=fun p=>o6 (dw d p).1) (B:=100) (C:=4) (q:=fun out=>k out) (by omega)
    (fun p _=>Nat.le_trans (Ho _) (QE p))
    (fun m j acc hm hj ha=>by
     simp only [jU,br,aJ,hj,zV,zE,bf,zC]
     rw [show (⟨⟨d.aq.ab,d.aq.bD⟩,d.ad,d.ab⟩:aa)=d from rfl,yA d hd.db]
     have h4:=QE ((ah d i).ax.getD j 0)
     rw [CF _ (by omega) _ m (by omega) acc (by omega)]) (fun m acc=>by simp [jU]) (ah d i).ax.length n 0 [] (by omega) (aP hn (by omega)) (by simp)
   rw [List.drop_zero,List.nil_append] at this
   exact this
structure fC (m:Mem):Prop where
 d:lG m.aa
 dy:m.ak.length=21
 dp:m.ae.length<=40
 n1:1<=m.Next
 n2:m.Next<=100000
 num:∀ x∈m.ae,bO m x=true
 bs:∀ x∈m.ae,x.ab.all (fun p=>within p 1 16)=true
 xQ:∀ x∈m.ae,c9 m x=true
 ids:m.ae.Pairwise fun a b=>¬ a.Id=b.Id
theorem uH {α:Type} {l:List α} (d:α) {P:α->α->Prop}:l.Pairwise P↔∀ i j,j<i->i<l.length->P (l.getD j d) (l.getD i d):=by
 rw [List.pairwise_iff_getElem]
 constructor
 ·intro h i j hj hi
  rw [fh _ _ hi,fh _ _ (by omega:j<l.length)]
  exact h j i (by omega) hi hj
 ·intro h i j hi hj Tj
  have:=h j i Tj hj
  rwa [fh _ _ hi,fh _ _ hj] at this
theorem nG {m:Mem}:gL m=true↔fC m:=by
 simp only [gL,zB,beq_iff_eq,zD,aj,lZ]
 constructor
 ·rintro ⟨⟨h1,h2,h3,h4,h5⟩,h6⟩
  have h7:∀ i,i<m.ae.length->rO m i=true:=fun i hi=>lO h6 hi
  have h8:∀ x∈m.ae,∃ i,i<m.ae.length/\x=m.ae.getD i aH:=by
   intro x hx
   obtain ⟨i,hi,rfl⟩:=List.mem_iff_getElem.1 hx
   exact ⟨i,hi,(fh _ _ hi).symm⟩
  refine ⟨h1,h2,h3,h4,h5,?_,?_,?_,?_⟩
  ·intro x hx
   obtain ⟨i,hi,rfl⟩:=h8 x hx
   have:=h7 i hi
   simp only [rO,zB] at this
   exact this.1
  ·intro x hx
   obtain ⟨i,hi,rfl⟩:=h8 x hx
   have:=h7 i hi
   simp only [rO,zB] at this
   exact this.2.1
  ·intro x hx
   obtain ⟨i,hi,rfl⟩:=h8 x hx
   have:=h7 i hi
   simp only [rO,zB] at this
   exact this.2.2.2
  ·rw [uH aH]
   intro i j hj hi
   have:=h7 i hi
   simp only [rO,zB] at this
   have:=lO this.2.2.1 hj
   simpa using this
 ·intro h
  refine ⟨⟨h.d,h.dy,h.dp,h.n1,h.n2⟩,?_⟩
  rw [List.all_eq_true]
  intro i hi
  rw [List.mem_range'] at hi
  obtain ⟨i',tw,e⟩:=hi
  have e':i=i':=by omega
  subst e'
  have hm:m.ae.getD i aH∈m.ae:=aY aH tw
  simp only [rO,zB]
  refine ⟨h.num _ hm,h.bs _ hm,?_,h.xQ _ hm⟩
  rw [List.all_eq_true]
  intro j hj
  rw [List.mem_range'] at hj
  obtain ⟨j',M4,e⟩:=hj
  have e':j=j':=by omega
  subst e'
  have:=(uH aH).1 h.ids i j M4 tw
  simpa using this
def bP (u:Int) (y:List Bool):List Bool:=bif decide (0<=u)&&decide (u<y.length) then y.set u.toNat true else y
theorem qB (u:Int) (m:Mem):mark u m={ m with ak:=bP u m.ak }:=by
 simp only [mark,bP]
 cases decide (0<=u)&&decide (u<(m.ak.length:Int))<;>rfl
theorem jP (u:Int) (d:aa) (y:List Bool) (p:List bE) (x:Int):mark u ⟨d,y,p,x⟩=⟨d,bP u y,p,x⟩:=qB u _
theorem cJ (u:Int) (y:List Bool):(bP u y).length=y.length:=by
 simp only [bP]
 cases decide (0<=u)&&decide (u<(y.length:Int)) with
 | false=>rfl
 | true=>exact List.length_set
theorem fC.bP {m:Mem} (h:fC m) (u:Int):fC { m with ak:=Soft.bP u m.ak } :=
 ⟨h.d,(cJ u m.ak).trans h.dy,h.dp,h.n1,h.n2,h.num,h.bs,h.xQ,h.ids⟩
theorem fC.bG {m:Mem} (h:fC m) {y:List Bool} (hy:y.length=21):fC { m with ak:=y } :=
 ⟨h.d,hy,h.dp,h.n1,h.n2,h.num,h.bs,h.xQ,h.ids⟩
theorem fC.less {m:Mem} (h:fC m) {l:List bE} (hl:l.Sublist m.ae):fC { m with ae:=l } :=
 ⟨h.d,h.dy,Nat.le_trans hl.length_le h.dp,h.n1,h.n2,fun x hx=>h.num x (hl.subset hx),fun x hx=>h.bs x (hl.subset hx),fun x hx=>h.xQ x (hl.subset hx),h.ids.sublist hl⟩
theorem fC.drop {m:Mem} (h:fC m) (id:Int):fC (aQ m id):=h.less List.filter_sublist
def eZ (id after:Int) (d:bE):bE:=bif (d.Kind==4)&&(d.bz==id) then { d with bz:=after } else d
def AK (id after:Int) (y:List Bool) (d:bE):List Bool:=bif ((d.Kind==4)&&(d.bz==id))&&(after==0) then bP (aE d.Block) y else y
def shown (id after:Int) (m:Mem):Mem:=⟨m.aa,(aQ m id).ae.foldl (AK id after) m.ak,(aQ m id).ae.map (eZ id after),m.Next⟩
theorem ob {α:Type} {a:List α} {j:Nat} (d:α) (h:a.length=j) {x:α} {b:List α}:(a++x::b).getD j d=x:=by
 rw [zT,List.getElem?_append_right (by omega),h,Nat.sub_self]; rfl
theorem nC {α:Type} {a:List α} {j:Nat} (y:α) (h:a.length=j) {x:α} {b:List α}:(a++x::b).set j y=a++y::b:=by
 rw [List.set_append_right _ _ (by omega),h,Nat.sub_self]; rfl
theorem HS (id after:Int) (bb bi:List Bool) (di:List aX) (db:List Block) (q:Int->List Bool->List bE->Option R) (next:Int) (l:List bE) (hl:l.length<=2097152) :
  ∀ (r j m:Nat) (y:List Bool),j+r=l.length->r<m ->
   fE id after bb bi di db q m (j:Int) next y ((l.take j).map (eZ id after)++l.drop j)=q next ((l.drop j).foldl (AK id after) y) (l.map (eZ id after)):=by
 intro r
 induction r with
 | zero =>
  intro j m y hj hm
  cases m with
  | zero=>omega
  | succ m =>
   have:j=l.length:=by omega
   subst this
   simp [fE]
 | succ r ih =>
  intro j m y hj hm
  cases m with
  | zero=>omega
  | succ m =>
   have fM:j<l.length:=by omega
   have Ws:((l.take j).map (eZ id after)).length=j:=by simp; omega
   have YJ:(l.take (j+1)).map (eZ id after)=(l.take j).map (eZ id after)++[eZ id after (l.getD j aH)]:=by
    rw [List.take_succ_eq_append_getElem fM,List.map_append,List.map_singleton,fh _ _ fM]
   have xl:=ih (j+1) m
   rw [YJ,List.append_assoc,List.singleton_append] at xl
   rw [cK aH fM,List.foldl_cons]
   have htl:(l.drop (j+1)).length=l.length-(j+1):=List.length_drop
   generalize (l.take j).map (eZ id after)=a at Ws xl ⊢
   generalize l.getD j aH=x at xl ⊢
   generalize l.drop (j+1)=b at htl xl ⊢
   have hlen:∀ z:bE,(a++z::b).length=l.length:=fun z=>by simp only [zK,zR]; omega
   simp only [fE,zC]
   rw [ob _ Ws,nC _ Ws,ob _ Ws,hlen,hlen,br,aJ,bH (by omega)]
   simp only [fM,zV,zE,bf,Bool.or_true]
   cases hc:(x.Kind==4)&&(x.bz==id) with
   | false =>
    have ha:eZ id after x=x:=by simp only [eZ,hc,zF]
    have hb:AK id after y x=y:=by simp only [AK,hc,Bool.false_and,zF]
    rw [ha] at xl
    rw [zF,hb]
    exact xl y (by omega) (by omega)
   | true =>
    have ha:eZ id after x={ x with bz:=after }:=by simp only [eZ,hc,zE]
    rw [ha] at xl
    rw [zE]
    cases h0:after==0 with
    | false =>
     have hb:AK id after y x=y:=by simp only [AK,hc,h0,Bool.and_false,zF]
     rw [zF,hb]
     exact xl y (by omega) (by omega)
    | true =>
     have hb:AK id after y x=bP (aE x.Block) y:=by simp only [AK,hc,h0,Bool.and_true,zE]
     rw [zE,ea,dj,jP,hb]
     exact xl _ (by omega) (by omega)
theorem yx {n:Nat} (hn:bn<=n) (m:Mem) (hm:eK m) (id after:Int) (k:Mem->Option R):nZ n id after m k=k (shown id after m):=by
 have Wm:m.ae.length<=2097152:=hm.dp
 have hle:(aQ m id).ae.length<=m.ae.length:=List.length_filter_le _ _
 simp only [nZ]
 rw [lM hn m hm]
 exact (HS (R:=R) id after _ _ _ _ _ m.Next (aQ m id).ae (by omega) (aQ m id).ae.length 0 n m.ak (by omega) (aP hn (by omega))).trans rfl
theorem wG {m m':Mem} (h:m.Next<=m'.Next) {d:bE} (hd:bO m d=true):bO m' d=true:=by
 simp only [bO,zB,aj] at hd ⊢
 obtain ⟨h1,h2,h3,h4,h5,h6,h7⟩:=hd
 exact ⟨⟨h1.1,by omega⟩,h2,h3,h4,h5,h6,h7.1,by omega⟩
theorem fC.put {m:Mem} (h:fC m) (d:bE) (hn:bO { m with Next:=m.Next+1 } { d with Id:=m.Next }=true) (hb:d.ab.all (fun p=>within p 1 16)=true) (hk:c9 m d=true):fC (dz m d).1:=by
 simp only [dz]
 cases hp:fq m with
 | false=>exact h
 | true =>
  simp only [fq,zB,zD,aj] at hp
  have eF:∀ x∈m.ae++[{ d with Id:=m.Next }],x∈m.ae\/x={ d with Id:=m.Next }:=by
   intro x hx
   simpa using hx
  refine ⟨h.d,h.dy,?_,?_,?_,?_,?_,?_,?_⟩
  ·show (m.ae++[_]).length<=40
   rw [zK,zL]; omega
  ·show 1<=m.Next+1; omega
  ·show m.Next+1<=100000; omega
  ·intro x hx
   rcases eF x hx with hx | rfl
   ·exact wG (m:=m) (by show m.Next<=m.Next+1; omega) (h.num x hx)
   ·exact hn
  ·intro x hx
   rcases eF x hx with hx | rfl
   ·exact h.bs x hx
   ·exact hb
  ·intro x hx
   rcases eF x hx with hx | rfl
   ·exact h.xQ x hx
   ·exact hk
  ·show (m.ae++[_]).Pairwise _
   rw [List.pairwise_append]
   refine ⟨h.ids,List.pairwise_singleton _ _,fun a ha b hb=> ?_⟩
   rw [zS] at hb
   subst hb
   have:=h.num a ha
   simp only [bO,zB,aj] at this
   show ¬ a.Id=m.Next
   omega
theorem mem_set {α:Type} {l:List α} {i:Nat} {a x:α} (h:x∈l.set i a):x∈l\/x=a:=List.mem_or_eq_of_mem_set h
theorem DB {d:aa} {l:List aX} {i j:Int} {x:aX} (h1:1<=i) (h2:i<=l.length) (j1:1<=j):ah { d with ad:=l.set (i-1).toNat x } j=bif j==i then x else l.getD (j-1).toNat ay:=by
 show (l.set (i-1).toNat x).getD (j-1).toNat ay=_
 cases h:j==i with
 | true =>
  have:j=i:=by simpa using h
  subst this
  simp only [zE]
  rw [zT,List.getElem?_set_self (by omega)]; rfl
 | false =>
  have cR:¬ j=i:=by simpa using h
  simp only [zF]
  rw [zT,List.getElem?_set_ne (by omega),← zT]
theorem x5 {d:aa} {l:List Block} {i j:Int} {x:Block} (h1:1<=i) (h2:i<=l.length) (j1:1<=j):aO { d with ab:=l.set (i-1).toNat x } j=bif j==i then x else l.getD (j-1).toNat aA:=by
 show (l.set (i-1).toNat x).getD (j-1).toNat aA=_
 cases h:j==i with
 | true =>
  have:j=i:=by simpa using h
  subst this
  simp only [zE]
  rw [zT,List.getElem?_set_self (by omega)]; rfl
 | false =>
  have cR:¬ j=i:=by simpa using h
  simp only [zF]
  rw [zT,List.getElem?_set_ne (by omega),← zT]
theorem fC.mW {m:Mem} (h:fC m) {i:Int} (h1:1<=i) (h2:i<=8) {x:aX} (hx:bx x=true)
  (hd:∀ d∈m.ae,(d.Kind==1||d.Kind==6)=true->d.Ino=i->(x.ax.getD d.Ptr.toNat 0==d.Block)=true) :
  fC { m with aa:={ m.aa with ad:=m.aa.ad.set (i-1).toNat x } }:=by
 refine ⟨⟨h.d.bb,h.d.bi,List.length_set.trans h.d.di,h.d.db,?_,h.d.oR⟩,h.dy,h.dp,h.n1,h.n2,h.num,h.bs,?_,h.ids⟩
 ·intro y hy
  rcases mem_set hy with hy | rfl
  ·exact h.d.ino y hy
  ·exact hx
 ·intro d Ca
  have hk:=h.xQ d Ca
  have hn:=h.num d Ca
  simp only [bO,zB,aj] at hn
  simp only [c9] at hk ⊢
  cases hc:(d.Kind==1)||(d.Kind==6) with
  | false =>
   simp only [hc,zF] at hk ⊢
   exact hk
  | true =>
   simp only [hc,zE,zB] at hk ⊢
   refine ⟨hk.1,?_⟩
   rw [DB h1 (by rw [h.d.di]; exact h2) (by omega)]
   cases he:d.Ino==i with
   | true=>exact hd d Ca hc (by simpa using he)
   | false=>exact hk.2
theorem fC.pL {m:Mem} (h:fC m) {p:Int} (h1:1<=p) (h2:p<=16) {b:Block} (hb:bF b=true)
  (hd:∀ d∈m.ae,(d.Kind==2||d.Kind==3)=true->d.Block=p->b.cp=true/\((b.an.getD d.Slot.toNat au).Ino==d.Ino)=true)
  (h4:∀ d∈m.ae,(d.Kind==4)=true->d.Block=p->b.cp=true) :
  fC { m with aa:={ m.aa with ab:=m.aa.ab.set (p-1).toNat b } }:=by
 refine ⟨⟨h.d.bb,h.d.bi,h.d.di,List.length_set.trans h.d.db,h.d.ino,?_⟩,h.dy,h.dp,h.n1,h.n2,h.num,h.bs,?_,h.ids⟩
 ·intro y hy
  rcases mem_set hy with hy | rfl
  ·exact h.d.oR y hy
  ·exact hb
 ·intro d Ca
  have hk:=h.xQ d Ca
  simp only [c9] at hk ⊢
  cases hc:(d.Kind==1)||(d.Kind==6) with
  | true =>
   simp only [hc,zE] at hk ⊢
   exact hk
  | false =>
   simp only [hc,zF] at hk ⊢
   cases eL:(d.Kind==2)||(d.Kind==3) with
   | true =>
    simp only [eL,zE,zB,zD] at hk ⊢
    rw [x5 h1 (by rw [h.d.db]; exact h2) (by omega)]
    cases he:d.Block==p with
    | true =>
     have:=hd d Ca eL (by simpa using he)
     exact ⟨⟨hk.1.1,this.1⟩,this.2⟩
    | false=>exact hk
   | false =>
    simp only [eL,zF] at hk ⊢
    cases hY:d.Kind==4 with
    | false=>rfl
    | true =>
     simp only [hY,zE,zB,zD] at hk ⊢
     rw [x5 h1 (by rw [h.d.db]; exact h2) (by omega)]
     cases he:d.Block==p with
     | true=>exact ⟨⟨hk.1.1,h4 d Ca hY (by simpa using he)⟩,hk.2⟩
     | false=>exact hk
theorem fC.tP {m:Mem} (h:fC m) {bb bi:List Bool} (h1:bb.length=16) (h2:bi.length=8):fC { m with aa:={ m.aa with aq:=⟨bb,bi⟩ } } :=
 ⟨⟨h1,h2,h.d.di,h.d.db,h.d.ino,h.d.oR⟩,h.dy,h.dp,h.n1,h.n2,h.num,h.bs,h.xQ,h.ids⟩
def stays (i:Int) (d:bE):Bool:=((!(d.Kind==1))&&(!(d.Kind==6)))||(!(d.Ino==i))
theorem R0 {n:Nat} (hn:bn<=n) (i:Int) (l:List bE) (hl:l.length<=cL) (q:List bE->Option R):eO i l q n 0 []=q (l.filter (stays i)):=by
 have xi:l.length<=2097152:=hl
 exact oY (R:=R) (L:=eO i l q) (l:=l) aH (P:=stays i) (B:=0) (q:=q) (by omega)
  (fun m j acc _ hi ha=>by
   simp only [eO,br,aJ,hi,zV,bf,zE,zC,Bool.or_true,stays]
   rw [ai (cb ha (by omega) (by simp))]) (fun m acc=>by simp [eO]) (n:=n) (aP hn (by omega))
theorem OG {n:Nat} (hn:bn<=n) (v:Nat) (di:List aX) (hl:(di.getD v ay).ax.length<=cL) (q:List Int->Option R):dS v di q n 0 []=q ((di.getD v ay).ax.filter fun p=>decide (0<p)):=by
 have xi:(di.getD v ay).ax.length<=2097152:=hl
 exact oY (R:=R) (L:=dS v di q) (l:=(di.getD v ay).ax) 0 (P:=fun p=>decide (0<p)) (B:=0) (q:=q) (by omega)
  (fun m j acc _ hi ha=>by
   simp only [dS,br,aJ,hi,zV,bf,zE,zC]
   rw [ai (cb ha (by omega) (by simp))]) (fun m acc=>by simp [dS]) (n:=n) (aP hn (by omega))
def gz (x:aX):aX:=bif decide (0<x.Links) then ⟨x.Kind,x.Links-1,x.ax⟩ else x
def aR (d:aa) (i:Int) (x:aX):aa:={ d with ad:=d.ad.set (i-1).toNat x }
def b9 (d:aa) (p:Int) (b:Block):aa:={ d with ab:=d.ab.set (p-1).toNat b }
def ix (i:Int) (m:Mem):Mem :=
 bif decide (40<=(m.ae.length:Int))|| !within m.Next 1 99999 then m else
 bif decide (0<(gz (ah m.aa i)).Links)||((gz (ah m.aa i)).Kind==0) then ⟨aR m.aa i (gz (ah m.aa i)),bP (aM i) m.ak,m.ae,m.Next⟩ else
 (dz ⟨aR m.aa i (ba 0),bP (aM i) m.ak,m.ae.filter (stays i),m.Next⟩ ⟨0,5,i,0,0,0,eS,false,false,0,(ah m.aa i).ax.filter fun p=>decide (0<p)⟩).1
theorem Gl {x:aX} (h:bx x=true):bx (gz x)=true:=by
 simp only [gz]
 cases hl:decide (0<x.Links) with
 | false=>exact h
 | true =>
  simp only [bx,zB,aj,zD,zE] at h hl ⊢
  refine ⟨h.1,⟨by omega,by omega⟩,h.2.2.1,h.2.2.2.1,?_⟩
  have:=h.2.2.2.2
  cases hk:x.Kind != 0 with
  | true=>rfl
  | false =>
   rw [hk,Bool.false_or,beq_iff_eq] at this
   omega
theorem HU (x:aX):(gz x).ax=x.ax:=by
 simp only [gz]; cases decide (0<x.Links)<;>rfl
theorem wk:bx (ba 0)=true:=by decide
theorem A4 {n:Nat} (hn:bn<=n) (m:Mem) (hm:eK m) (i:Int) (h1:1<=i) (h2:i<=m.aa.ad.length) (hk:within (ah m.aa i).Links 0 200=true) (hp:(ah m.aa i).ax.length<=cL) (k:Mem->Option R) :
  mf n i m k=k (ix i m):=by
 have Wm:m.ae.length<=2097152:=hm.dp
 have PB:m.aa.ad.length<=2097152:=hm.d.di
 simp only [mf,iZ,ix]
 cases hc:decide (40<=(m.ae.length:Int)) with
 | true=>rfl
 | false =>
 cases hw:within m.Next 1 99999 with
 | false=>rfl
 | true =>
 rw [aj] at hk
 simp only [zN,zM,zE,zF,Bool.or_false]
 rw [bR (by omega) (by omega),ai (bB h1 h2)]
 have e0:m.aa.ad.getD (i-1).toNat ay=ah m.aa i:=rfl
 rw [e0,vm _ hp,gi,dj,qB]
 have fin:∀ (x:aX),x.ax=(ah m.aa i).ax ->
   eO i m.ae (fun list=>dS (i-1).toNat (m.aa.ad.set (i-1).toNat x) (fun blocks =>
    dX 0 fun M0=>aK (bc (i-1) (m.aa.ad.set (i-1).toNat x).length) <|
    iB n ⟨⟨m.aa.aq,(m.aa.ad.set (i-1).toNat x).set (i-1).toNat M0,m.aa.ab⟩,bP (aM i) m.ak,list,m.Next⟩ ⟨0,5,i,0,0,0,eS,false,false,0,blocks⟩ fun aZ dC=>k aZ) n 0 []) n 0 [] =
   k (dz ⟨aR m.aa i (ba 0),bP (aM i) m.ak,m.ae.filter (stays i),m.Next⟩ ⟨0,5,i,0,0,0,eS,false,false,0,(ah m.aa i).ax.filter fun p=>decide (0<p)⟩).1:=by
  intro x hx
  have eg:(m.aa.ad.set (i-1).toNat x).getD (i-1).toNat ay=x:=by
   rw [zT,List.getElem?_set_self (by omega)]; rfl
  rw [R0 hn i _ hm.dp,OG hn _ _ (by rw [eg,hx]; exact hp),eg,hx,jv,ai (bB h1 (by rw [List.length_set]; exact h2)),List.set_set]
  rw [qe hn]
  ·rfl
  ·refine ⟨⟨hm.d.bb,hm.d.bi,by show (List.set _ _ _).length<=cL; rw [List.length_set]; exact hm.d.di,hm.d.db,?_,hm.d.oR⟩,by show (bP _ _).length<=cL; rw [cJ]; exact hm.dy,Nat.le_trans (List.length_filter_le _ _) hm.dp,fun d hd=>hm.dep d ((List.mem_filter.1 hd).1)⟩
   intro y hy
   rcases mem_set hy with hy | rfl
   ·exact hm.d.ino y hy
   ·show (2:Nat)<=cL; decide
  ·exact Nat.le_trans (List.length_filter_le _ _) hp
 cases hl:decide (0<(ah m.aa i).Links) with
 | false =>
  have ef:gz (ah m.aa i)=ah m.aa i:=by simp only [gz,hl,zF]
  simp only [zF]
  rw [ai (bB h1 h2),ef]
  cases hz:decide (0<(ah m.aa i).Links)||((ah m.aa i).Kind==0) with
  | true=>rw [hl] at hz; simp only [hl,hz,zE]; rfl
  | false =>
   rw [hl] at hz; simp only [hl,hz,zF]
   exact fin _ rfl
 | true =>
  rw [zD] at hl
  have ef:gz (ah m.aa i)=⟨(ah m.aa i).Kind,(ah m.aa i).Links-1,(ah m.aa i).ax⟩:=by simp only [gz,hl,zV,zE]
  simp only [zE]
  rw [ai (bB h1 h2),ef,cy (by omega) (by omega)]
  cases hz:decide (0<(ah m.aa i).Links-1)||((ah m.aa i).Kind==0) with
  | true=>rfl
  | false=>exact fin ⟨(ah m.aa i).Kind,(ah m.aa i).Links-1,(ah m.aa i).ax⟩ rfl
theorem yu (m:Mem) (d:bE):(dz m d).1.aa=m.aa:=by
 simp only [dz]; cases fq m<;>rfl
theorem fC.ix {m:Mem} (h:fC m) {i:Int} (h1:1<=i) (h2:i<=8):fC (Soft.ix i m):=by
 simp only [Soft.ix]
 cases hc:decide (40<=(m.ae.length:Int))|| !within m.Next 1 99999 with
 | true=>exact h
 | false =>
  have hx:=h.d.sK h1 h2
  have hpt:∀ d∈m.ae,(d.Kind==1||d.Kind==6)=true->d.Ino=i->((ah m.aa i).ax.getD d.Ptr.toNat 0==d.Block)=true:=by
   intro d hd hk he
   have:=h.xQ d hd
   simp only [c9,hk,zE,zB,he] at this
   exact this.2
  simp only [zF]
  cases hz:decide (0<(gz (ah m.aa i)).Links)||((gz (ah m.aa i)).Kind==0) with
  | true =>
   have:=h.mW h1 h2 (Gl hx) (fun d hd hk he=>by rw [HU]; exact hpt d hd hk he)
   exact this.bP (aM i)
  | false =>
   have h3:fC { m with ae:=m.ae.filter (stays i) }:=h.less List.filter_sublist
   have h4:=h3.mW h1 h2 wk (fun d hd hk he=>by
    have:=(List.mem_filter.1 hd).2
    simp only [stays,he,beq_self_eq_true,zM,Bool.or_false,zB,Bool.not_eq_true'] at this
    rw [this.1,this.2] at hk
    cases hk)
   have h5:=h4.bP (aM i)
   have hw:within m.Next 1 99999=true:=by
    rw [Bool.or_eq_false_iff] at hc
    simpa using hc.2
   rw [aj] at hw
   refine h5.put _ ?_ ?_ ?_
   ·simp only [bO,zB,aj]
    refine ⟨⟨by omega,by omega⟩,⟨by decide,by decide⟩,⟨h1,h2⟩,⟨by decide,by decide⟩,⟨by decide,by decide⟩,⟨by decide,by decide⟩,by decide,by omega⟩
   ·rw [List.all_eq_true]
    intro p hp
    rw [List.mem_filter,zD] at hp
    simp only [bx,zB,List.all_eq_true,aj] at hx
    have:=(hx.2.2.2.1 p hp.1).1
    rw [aj]; omega
   ·rfl
theorem xz {S:Type} {L:Nat->Int->S->Option R} {g:Nat->S->S} {q:S->Option R} {B:Nat}
  (hq:∀ m acc,B<m->L m (-1) acc=q acc):∀ (len n:Nat) (acc:S),(∀ m i acc,i<len->B<m->L (m+1) (i:Int) acc=L m ((i:Int)-1) (g i acc))->len+B<n ->
   L n ((len:Int)-1) acc=q ((List.range' 0 len).reverse.foldl (fun a i=>g i a) acc)
 | 0,n,acc,hs,hn=>hq n acc (by omega)
 | len+1,n,acc,hs,hn=>by
  cases n with
  | zero=>omega
  | succ n =>
   have e:((len+1:Nat):Int)-1=(len:Int):=by omega
   rw [e,hs n len acc (by omega) (by omega),xz hq len n _ (fun m i acc hi hm=>hs m i acc (by omega) hm) (by omega)]
   rw [List.range'_concat,List.reverse_append]
   simp
def lj (m:Mem) (p:Int) (s:Nat):Bool :=
 (((((aO m.aa p).an.getD s au).Name)==eS)&&(((aO m.aa p).an.getD s au).Ino==0))&&(eY m p s==0)
def lE (m:Mem) (p:Int) (acc:Int×Int):Int×Int :=
 bif within p 1 m.aa.ab.length&&(aO m.aa p).cp then (List.range' 0 (aO m.aa p).an.length).reverse.foldl (fun a s=>bif lj m p s then (p,(s:Int)) else a) acc else acc
def nh (m:Mem) (l:List Int):Int×Int:=(List.range' 0 l.length).reverse.foldl (fun a i=>lE m (l.getD i 0) a) (0,0)
theorem Pj {n:Nat} (hn:bn<=n) (m0:Mem) (hm:m0.ae.length<=cL) (x:Nat) (v:Nat) (hx:x<(m0.aa.ad.getD v ay).ax.length) (w:Nat)
  (hw:w=(((m0.aa.ad.getD v ay).ax.getD x 0)-1).toNat) (hb:(m0.aa.ab.getD w aA).an.length<=cL) (hd:(m0.aa.ab.getD w aA).cp=true) (q:Int->Int->Option R) (acc:Int×Int) (m:Nat) (SZ:cL<m) :
  fI n (x:Int) true m0.Next v true w m0.aa.aq.ab m0.aa.aq.bD m0.aa.ad m0.aa.ab m0.ak m0.ae q m acc.1 acc.2 (aC (((m0.aa.ab.getD w aA).an.length:Int)-1)) =
   q ((List.range' 0 (m0.aa.ab.getD w aA).an.length).reverse.foldl (fun a s=>bif lj m0 ((m0.aa.ad.getD v ay).ax.getD x 0) s then ((m0.aa.ad.getD v ay).ax.getD x 0,(s:Int)) else a) acc).1
    ((List.range' 0 (m0.aa.ab.getD w aA).an.length).reverse.foldl (fun a s=>bif lj m0 ((m0.aa.ad.getD v ay).ax.getD x 0) s then ((m0.aa.ad.getD v ay).ax.getD x 0,(s:Int)) else a) acc).2:=by
 have MH:(m0.aa.ab.getD w aA).an.length<=2097152:=hb
 have hm2:2097152<m:=SZ
 have ew:m0.aa.ab.getD w aA=aO m0.aa ((m0.aa.ad.getD v ay).ax.getD x 0):=by rw [hw]; rfl
 generalize hp:(m0.aa.ad.getD v ay).ax.getD x 0=p at ew hw ⊢
 rw [cy (by omega) (by omega)]
 refine xz (R:=R) (S:=Int×Int) (L:=fun m s acc=>fI n (x:Int) true m0.Next v true w m0.aa.aq.ab m0.aa.aq.bD m0.aa.ad m0.aa.ab m0.ak m0.ae q m acc.1 acc.2 s)
  (g:=fun s a=>bif lj m0 p s then (p,(s:Int)) else a) (q:=fun a=>q a.1 a.2) (B:=0) ?_ _ _ _ ?_ (by omega)
 ·intro m acc hm
  cases m with
  | zero=>omega
  | succ m=>rfl
 ·intro m s acc hs _
  have h0:decide ((0:Int)<=(s:Int))=true:=decide_eq_true (by omega)
  simp only [fI,h0,Bool.and_true,zE,aJ,hs,hx,zV,bf,Bool.or_true,zC,hp]
  have ed:=vZ (R:=R) hn m0 hm p s
  refine (ed _).trans ?_
  simp only [lj]
  rw [cy (by omega) (by omega),← ew]
  cases ((((m0.aa.ab.getD w aA).an.getD s au).Name)==eS)&&(((m0.aa.ab.getD w aA).an.getD s au).Ino==0) with
  | false=>rfl
  | true=>cases h:eY m0 p s==0<;>simp [h]
theorem Uk {n:Nat} (hn:bn<=n) (m0:Mem) (hm:eK m0) (v:Nat) (hl:(m0.aa.ad.getD v ay).ax.length<=cL) (q:Int->Int->Option R) :
  g9 n m0.Next v m0.aa.aq.ab m0.aa.aq.bD m0.aa.ad m0.aa.ab m0.ak m0.ae q n 0 0 (aC (((m0.aa.ad.getD v ay).ax.length:Int)-1)) =
   q (nh m0 (m0.aa.ad.getD v ay).ax).1 (nh m0 (m0.aa.ad.getD v ay).ax).2:=by
 have xi:(m0.aa.ad.getD v ay).ax.length<=2097152:=hl
 have SH:m0.aa.ab.length<=2097152:=hm.d.db
 have Nc:100000000<=n:=hn
 rw [cy (by omega) (by omega)]
 refine xz (R:=R) (S:=Int×Int) (L:=fun m x acc=>g9 n m0.Next v m0.aa.aq.ab m0.aa.aq.bD m0.aa.ad m0.aa.ab m0.ak m0.ae q m acc.1 acc.2 x)
  (g:=fun i a=>lE m0 ((m0.aa.ad.getD v ay).ax.getD i 0) a) (q:=fun a=>q a.1 a.2) (B:=2097152) ?_ _ n (0,0) ?_ (by omega)
 ·intro m acc hm
  cases m with
  | zero=>omega
  | succ m=>rfl
 ·intro m x acc hx SZ
  have h0:decide ((0:Int)<=(x:Int))=true:=decide_eq_true (by omega)
  obtain ⟨m',rfl⟩:∃ m',m=m'+1:=⟨m-1,by omega⟩
  rw [g9]
  simp only [h0,zE,aJ,hx,zV,bf,zC,sf,iZ]
  rw [cy (n:=(x:Int)-1) (by omega) (by omega)]
  generalize hp:(m0.aa.ad.getD v ay).ax.getD x 0=p
  cases hw:within p 1 (m0.aa.ab.length:Int) with
  | false =>
   have e:lE m0 p acc=acc:=by simp only [lE,hw,Bool.false_and,zF]
   rw [e]
   simp only [zN,zE,mH,Bool.and_false,Bool.false_and,zF]
  | true =>
   have XL:=aj.1 hw
   simp only [zM,zF]
   rw [bR (by omega) (by omega),ai (bB XL.1 XL.2)]
   have eb:m0.aa.ab.getD (p-1).toNat aA=aO m0.aa p:=rfl
   have mi:=hm.d.oR _ (aY aA (l:=m0.aa.ab) (i:=(p-1).toNat) (by omega))
   cases hd:(aO m0.aa p).cp with
   | false =>
    have e:lE m0 p acc=acc:=by simp only [lE,hw,hd,Bool.and_false,zF]
    rw [e,eb,hd]
    simp only [fI,Bool.and_false,Bool.false_and,zF]
   | true =>
    have e:lE m0 p acc=(List.range' 0 (aO m0.aa p).an.length).reverse.foldl (fun a s=>bif lj m0 p s then (p,(s:Int)) else a) acc:=by simp only [lE,hw,hd,Bool.and_true,zE]
    rw [e,eb,hd]
    have:=Pj (R:=R) hn m0 hm.dp x v hx (p-1).toNat (by rw [hp]) mi.1 (by rw [eb,hd])
     (fun Fu Ju=>g9 n m0.Next v m0.aa.aq.ab m0.aa.aq.bD m0.aa.ad m0.aa.ab m0.ak m0.ae q (m'+1) Fu Ju ((x:Int)-1)) acc (m'+1) SZ
    rw [hp,eb] at this
    exact this
structure ou (m:Mem) (p s:Int):Prop where
 p1:1<=p
 p2:p<=m.aa.ab.length
 dir:(aO m.aa p).cp=true
 s0:0<=s
 s1:s<(aO m.aa p).an.length
 free:lj m p s.toNat=true
theorem Pv {m:Mem} {p:Int} {acc:Int×Int} (h:acc=(0,0)\/ou m acc.1 acc.2):lE m p acc=(0,0)\/ou m (lE m p acc).1 (lE m p acc).2:=by
 simp only [lE]
 cases hc:within p 1 m.aa.ab.length&&(aO m.aa p).cp with
 | false=>exact h
 | true =>
  rw [zB,aj] at hc
  simp only [zE]
  have:∀ (l:List Nat) (acc:Int×Int),(∀ s∈l,s<(aO m.aa p).an.length)->(acc=(0,0)\/ou m acc.1 acc.2) ->
    (l.foldl (fun a (s:Nat)=>bif lj m p s then (p,(s:Int)) else a) acc=(0,0)\/ou m (l.foldl (fun a (s:Nat)=>bif lj m p s then (p,(s:Int)) else a) acc).1 (l.foldl (fun a (s:Nat)=>bif lj m p s then (p,(s:Int)) else a) acc).2):=by
   intro l
   induction l with
   | nil=>intro acc _ h; exact h
   | cons s l ih =>
    intro acc hl h
    rw [List.foldl_cons]
    refine ih _ (fun s hs=>hl s (zJ _ hs)) ?_
    cases hf:lj m p s with
    | false=>exact h
    | true=>exact Or.inr ⟨hc.1.1,hc.1.2,hc.2,by show (0:Int)<=(s:Int); omega,by show (s:Int)<((aO m.aa p).an.length:Int); have:=hl s (zO ..); omega,hf⟩
  refine this _ acc (fun s hs=> ?_) h
  rw [List.mem_reverse,List.mem_range'] at hs
  obtain ⟨i,hi,rfl⟩:=hs
  omega
theorem Bn (m:Mem) (l:List Int):nh m l=(0,0)\/ou m (nh m l).1 (nh m l).2:=by
 have:∀ (r:List Nat) (acc:Int×Int),(acc=(0,0)\/ou m acc.1 acc.2)->(r.foldl (fun a i=>lE m (l.getD i 0) a) acc=(0,0)\/ou m (r.foldl (fun a i=>lE m (l.getD i 0) a) acc).1 (r.foldl (fun a i=>lE m (l.getD i 0) a) acc).2):=by
  intro r
  induction r with
  | nil=>intro acc h; exact h
  | cons i r ih=>intro acc h; rw [List.foldl_cons]; exact ih _ (Pv h)
 exact this _ (0,0) (Or.inl rfl)
def pd (s:Slot):Bool:=(s.Name==eS&&s.Ino==0)||(bN s.Name&&within s.Ino 1 8)
def fY (b:Block):Bool:=bif b.cp then (b.an.length==4&&b.Text==eS)&&b.an.all pd else b.an.length==0&&decide (b.Text.size<=16)
theorem La {b:Block} (h:bF b=true):fY b=true:=by
 simp only [bF,fY] at h ⊢
 cases hd:b.cp with
 | false=>rw [hd] at h; exact h
 | true =>
  simp only [hd,zE,zB] at h ⊢
  refine ⟨h.1,?_⟩
  rw [List.all_eq_true]
  intro s hs
  obtain ⟨i,hi,rfl⟩:=List.mem_iff_getElem.1 hs
  have h4:b.an.length=4:=by simpa using h.1.1
  have:=lO h.2 (i:=i) (by omega)
  simp only [wZ,Bool.or_eq_true,zB,fh _ _ hi] at this
  simp only [pd,Bool.or_eq_true,zB]
  exact this.imp id (fun h=>h.1)
theorem Dh {b:Block} (h:fY b=true):wz b:=by
 simp only [fY] at h
 cases hd:b.cp with
 | false =>
  simp only [hd,zF,zB,beq_iff_eq,zD] at h
  have h0:b.an=[]:=List.length_eq_zero_iff.1 h.1
  exact ⟨by rw [h0]; exact Nat.zero_le _,Nat.le_trans h.2 (by decide),by rw [h0]; intro s hs; cases hs⟩
 | true =>
  simp only [hd,zE,zB,beq_iff_eq,List.all_eq_true] at h
  obtain ⟨⟨h1,h2⟩,h3⟩:=h
  refine ⟨by rw [h1]; decide,by rw [h2]; decide,fun s hs=> ?_⟩
  have:=h3 s hs
  simp only [pd,Bool.or_eq_true,zB,beq_iff_eq] at this
  rcases this with h | h
  ·show s.Name.size<=cL; rw [h.1]; decide
  ·exact Nat.le_trans (eW h.1).2 (by decide)
theorem dg {b:Block} (h:fY b=true) (hd:b.cp=true):b.an.length=4:=by
 simp only [fY,hd,zE,zB,beq_iff_eq] at h
 exact h.1.1
theorem sV {b:Block} (h:fY b=true) (hd:b.cp=true) {s:Slot} (hs:s∈b.an):pd s=true:=by
 simp only [fY,hd,zE,zB,List.all_eq_true] at h
 exact h.2 s hs
theorem u5 {b:Block} (h:fY b=true) (hd:b.cp=true) (i:Nat) {s:Slot} (hs:pd s=true):fY ⟨b.cp,b.an.set i s,b.Text⟩=true:=by
 simp only [fY,hd,zE,zB,List.all_eq_true,List.length_set] at h ⊢
 exact ⟨h.1,fun x hx=>(mem_set hx).elim (h.2 x) (fun e=>e▸hs)⟩
structure cE (d:aa):Prop where
 bb:d.aq.ab.length=16
 bi:d.aq.bD.length=8
 di:d.ad.length=8
 db:d.ab.length=16
 ino:∀ x∈d.ad,bx x=true
 oR:∀ b∈d.ab,fY b=true
theorem lG.t {d:aa} (h:lG d):cE d:=⟨h.bb,h.bi,h.di,h.db,h.ino,fun b hb=>La (h.oR b hb)⟩
theorem cE.sz {d:aa} (h:cE d):kj d:=by
 refine ⟨by rw [h.bb]; decide,by rw [h.bi]; decide,by rw [h.di]; decide,by rw [h.db]; decide,fun x hx=> ?_,fun b hb=>Dh (h.oR b hb)⟩
 show x.ax.length<=cL
 rw [jf (h.ino x hx)]; decide
theorem cE.sK {d:aa} (h:cE d) {i:Int} (h1:1<=i) (h2:i<=8):bx (ah d i)=true:=h.ino _ (aY ay (by rw [h.di]; omega))
theorem cE.n9 {d:aa} (h:cE d) {p:Int} (h1:1<=p) (h2:p<=16):fY (aO d p)=true:=h.oR _ (aY aA (by rw [h.db]; omega))
theorem cE.th {d:aa} (h:cE d) {i:Int} (h1:1<=i) (h2:i<=8):(ah d i).ax.length=2:=jf (h.sK h1 h2)
structure cC (m:Mem):Prop where
 d:cE m.aa
 dy:m.ak.length=21
 dp:m.ae.length<=40
 n1:1<=m.Next
 n2:m.Next<=100000
 num:∀ x∈m.ae,bO m x=true
 bs:∀ x∈m.ae,x.ab.all (fun p=>within p 1 16)=true
 sz:∀ x∈m.ae,rL x
theorem cC.EZ {m:Mem} (h:cC m):eK m:=⟨h.d.sz,by rw [h.dy]; decide,Nat.le_trans h.dp (by decide),h.sz⟩
theorem cC.bG {m:Mem} (h:cC m) {y:List Bool} (hy:y.length=21):cC { m with ak:=y }:=⟨h.d,hy,h.dp,h.n1,h.n2,h.num,h.bs,h.sz⟩
theorem cC.mark {m:Mem} (h:cC m) (u:Int):cC { m with ak:=bP u m.ak }:=h.bG ((cJ u _).trans h.dy)
theorem cC.xZ {m:Mem} (h:cC m) {d:aa} (hd:cE d):cC { m with aa:=d }:=⟨hd,h.dy,h.dp,h.n1,h.n2,h.num,h.bs,h.sz⟩
theorem cC.less {m:Mem} (h:cC m) {l:List bE} (hl:l.Sublist m.ae):cC { m with ae:=l } :=
 ⟨h.d,h.dy,Nat.le_trans hl.length_le h.dp,h.n1,h.n2,fun x hx=>h.num x (hl.subset hx),fun x hx=>h.bs x (hl.subset hx),fun x hx=>h.sz x (hl.subset hx)⟩
theorem cC.drop {m:Mem} (h:cC m) (id:Int):cC (aQ m id):=h.less List.filter_sublist
theorem cC.put {m:Mem} (h:cC m) (d:bE) (hn:bO { m with Next:=m.Next+1 } { d with Id:=m.Next }=true) (hb:d.ab.all (fun p=>within p 1 16)=true) (hs:rL d):cC (dz m d).1:=by
 simp only [dz]
 cases hp:fq m with
 | false=>exact h
 | true =>
  simp only [fq,zB,zD,aj] at hp
  have eF:∀ x∈m.ae++[{ d with Id:=m.Next }],x∈m.ae\/x={ d with Id:=m.Next }:=by
   intro x hx
   simpa using hx
  refine ⟨h.d,h.dy,?_,?_,?_,?_,?_,?_⟩
  ·show (m.ae++[_]).length<=40
   rw [zK,zL]; omega
  ·show 1<=m.Next+1; omega
  ·show m.Next+1<=100000; omega
  ·intro x hx
   rcases eF x hx with hx | rfl
   ·exact wG (m:=m) (by show m.Next<=m.Next+1; omega) (h.num x hx)
   ·exact hn
  ·intro x hx
   rcases eF x hx with hx | rfl
   ·exact h.bs x hx
   ·exact hb
  ·intro x hx
   rcases eF x hx with hx | rfl
   ·exact h.sz x hx
   ·exact hs
theorem cE.mW {d:aa} (h:cE d) (i:Int) {x:aX} (hx:bx x=true):cE (aR d i x) :=
 ⟨h.bb,h.bi,List.length_set.trans h.di,h.db,fun y hy=>(mem_set hy).elim (h.ino y) (fun e=>e▸hx),h.oR⟩
theorem cE.pL {d:aa} (h:cE d) (p:Int) {b:Block} (hb:fY b=true):cE (b9 d p b) :=
 ⟨h.bb,h.bi,h.di,List.length_set.trans h.db,h.ino,fun y hy=>(mem_set hy).elim (h.oR y) (fun e=>e▸hb)⟩
theorem cE.tP {d:aa} (h:cE d) {bb bi:List Bool} (h1:bb.length=16) (h2:bi.length=8):cE { d with aq:=⟨bb,bi⟩ } :=
 ⟨h1,h2,h.di,h.db,h.ino,h.oR⟩
theorem cC.ix {m:Mem} (h:cC m) {i:Int} (h1:1<=i) (h2:i<=8):cC (Soft.ix i m):=by
 simp only [Soft.ix]
 cases hc:decide (40<=(m.ae.length:Int))|| !within m.Next 1 99999 with
 | true=>exact h
 | false =>
  have hx:=h.d.sK h1 h2
  simp only [zF]
  cases hz:decide (0<(gz (ah m.aa i)).Links)||((gz (ah m.aa i)).Kind==0) with
  | true=>exact (h.xZ (h.d.mW i (Gl hx))).mark (aM i)
  | false =>
   have h3:cC { m with ae:=m.ae.filter (stays i) }:=h.less List.filter_sublist
   have h5:=(h3.xZ (h.d.mW i wk)).mark (aM i)
   have hw:within m.Next 1 99999=true:=by
    rw [Bool.or_eq_false_iff] at hc
    simpa using hc.2
   rw [aj] at hw
   refine h5.put _ ?_ ?_ ⟨by show eS.size<=cL; decide,Nat.le_trans (List.length_filter_le _ _) (by rw [h.d.th h1 h2]; decide)⟩
   ·simp only [bO,zB,aj]
    refine ⟨⟨by omega,by omega⟩,⟨by decide,by decide⟩,⟨h1,h2⟩,⟨by decide,by decide⟩,⟨by decide,by decide⟩,⟨by decide,by decide⟩,by decide,by omega⟩
   ·rw [List.all_eq_true]
    intro p hp
    rw [List.mem_filter,zD] at hp
    simp only [bx,zB,List.all_eq_true,aj] at hx
    have:=(hx.2.2.2.1 p hp.1).1
    rw [aj]; omega
theorem OC (id after:Int) (y:List Bool) (d:bE):(AK id after y d).length=y.length:=by
 simp only [AK]
 cases ((d.Kind==4)&&(d.bz==id))&&(after==0) with
 | false=>rfl
 | true=>exact cJ _ _
theorem yf (id after:Int) (l:List bE):∀ y:List Bool,(l.foldl (AK id after) y).length=y.length:=by
 induction l with
 | nil=>intro y; rfl
 | cons d l ih=>intro y; rw [List.foldl_cons,ih,OC]
theorem cC.shown {m:Mem} (h:cC m) (id after:Int) (h1:0<=after) (h2:after<=m.Next-1):cC (Soft.shown id after m):=by
 have h':=h.drop id
 have eF:∀ x∈(aQ m id).ae.map (eZ id after),∃ y∈(aQ m id).ae,x=y\/x={ y with bz:=after }:=by
  intro x hx
  obtain ⟨y,hy,rfl⟩:=List.mem_map.1 hx
  refine ⟨y,hy,?_⟩
  simp only [eZ]
  cases (y.Kind==4)&&(y.bz==id) with
  | false=>exact Or.inl rfl
  | true=>exact Or.inr rfl
 refine ⟨h.d,(yf id after _ _).trans h.dy,by show (List.map _ _).length<=40; rw [List.length_map]; exact h'.dp,h.n1,h.n2,fun x hx=> ?_,fun x hx=> ?_,fun x hx=> ?_⟩
 ·obtain ⟨y,hy,e | e⟩:=eF x hx
  ·subst e; exact h'.num _ hy
  ·have:=h'.num _ hy
   subst e
   simp only [bO,zB,aj] at this ⊢
   exact ⟨this.1,this.2.1,this.2.2.1,this.2.2.2.1,this.2.2.2.2.1,this.2.2.2.2.2.1,h1,h2⟩
 ·obtain ⟨y,hy,e | e⟩:=eF x hx
  ·subst e; exact h'.bs _ hy
  ·subst e; exact h'.bs y hy
 ·obtain ⟨y,hy,e | e⟩:=eF x hx
  ·subst e; exact h'.sz _ hy
  ·subst e; exact h'.sz y hy
theorem ox {m:Mem} (h:cC m):cC (aV m).1/\(aV m).1.Next=m.Next/\(aV m).1.ae=m.ae/\((aV m).2==0\/(1<=(aV m).2/\(aV m).2<=16))/\(aV m).1.aa.ad=m.aa.ad/\(aV m).1.aa.ab=m.aa.ab:=by
 simp only [aV]
 cases hf:firstFree m.aa.aq.ab==0 with
 | true=>exact ⟨h,rfl,rfl,Or.inl rfl,rfl,rfl⟩
 | false =>
  have hr:=kA _ hf
  have hl:=h.d.bb
  simp only [zF]
  rw [qB]
  exact ⟨(h.xZ (h.d.tP (bb:=m.aa.aq.ab.set (firstFree m.aa.aq.ab-1).toNat true) (bi:=m.aa.aq.bD) (List.length_set.trans h.d.bb) h.d.bi)).mark 0,rfl,rfl,Or.inr ⟨hr.1,by omega⟩,rfl,rfl⟩
theorem Ez {m:Mem} (h:cC m):cC (aT m).1/\(aT m).1.Next=m.Next/\(aT m).1.ae=m.ae/\((aT m).2==0\/(1<=(aT m).2/\(aT m).2<=8))/\(aT m).1.aa.ad=m.aa.ad/\(aT m).1.aa.ab=m.aa.ab:=by
 simp only [aT]
 cases hf:firstFree m.aa.aq.bD==0 with
 | true=>exact ⟨h,rfl,rfl,Or.inl rfl,rfl,rfl⟩
 | false =>
  have hr:=kA _ hf
  have hl:=h.d.bi
  simp only [zF]
  rw [qB]
  exact ⟨(h.xZ (h.d.tP (bb:=m.aa.aq.ab) (bi:=m.aa.aq.bD.set (firstFree m.aa.aq.bD-1).toNat true) h.d.bb (List.length_set.trans h.d.bi))).mark 0,rfl,rfl,Or.inr ⟨hr.1,by omega⟩,rfl,rfl⟩
def bU (l:List Int):Nat:=(l.takeWhile fun p=> !(p==0)).length
theorem q9 (l:List Int):bU l<=l.length:=by
 induction l with
 | nil=>exact Nat.le_refl _
 | cons a l ih =>
  simp only [bU] at ih ⊢
  rw [List.takeWhile_cons]
  cases !(a==0) with
  | false=>simp
  | true=>simp only [if_true,zR]; omega
theorem Ru (v:Nat) (di:List aX) (hl:(di.getD v ay).ax.length<=2097152) (q:Int->Option R) :
  ∀ (r:List Int) (j m:Nat),r=(di.getD v ay).ax.drop j->j<=(di.getD v ay).ax.length->r.length<m->jz v di q m (j:Int)=q ((j+bU r:Nat):Int):=by
 intro r
 induction r with
 | nil =>
  intro j m hr hj hm
  cases m with
  | zero=>omega
  | succ m =>
   have hlen:=congrArg List.length hr
   rw [List.length_nil,List.length_drop] at hlen
   have:¬ j<(di.getD v ay).ax.length:=by omega
   simp only [jz,br,this,decide_false,zN,Bool.true_or,bf,Bool.false_and,zF]
   rfl
 | cons a r ih =>
  intro j m hr hj hm
  cases m with
  | zero=>omega
  | succ m =>
   have hlen:=congrArg List.length hr
   rw [zR,List.length_drop] at hlen
   have fM:j<(di.getD v ay).ax.length:=by omega
   rw [cK 0 fM,List.cons.injEq] at hr
   simp only [jz,br,aJ,fM,zV,zM,Bool.false_or,bf,Bool.true_and,zC]
   rw [← hr.1,bH (by omega)]
   simp only [bU]
   rw [List.takeWhile_cons]
   cases hc: !(a==0) with
   | false=>rfl
   | true =>
    simp only [zE,if_true,zR]
    rw [ih (j+1) m hr.2 (by omega) (by simp only [zR] at hm; omega)]
    simp only [bU]
    congr 1
    omega
def gC (x:aX) (i:Nat) (p:Int):aX:=⟨x.Kind,x.Links,x.ax.set i p⟩
def fb (b:Block) (s:Nat) (x:Slot):Block:=⟨b.cp,b.an.set s x,b.Text⟩
def setName (m:Mem) (p s:Int) (name:ByteArray) (ino:Int):Mem×Int :=
 dz ⟨b9 m.aa p (fb (aO m.aa p) s.toNat ⟨name,ino⟩),bP 0 (bP (aE p) m.ak),m.ae,m.Next⟩ ⟨0,2,ino,0,p,s,eS,false,false,0,[]⟩
def dk (m:Mem) (dir:Int) (x:Nat) (r:Int):Mem :=
 (dz ⟨aR (b9 m.aa r ⟨true,List.replicate 4 au,eS⟩) dir (gC (ah m.aa dir) x r),bP (aM dir) (bP (aE r) m.ak),m.ae,m.Next⟩ ⟨0,1,dir,x,r,0,eS,false,false,0,[]⟩).1
def dL (m:Mem) (dir:Int) (name:ByteArray) (ino:Int):Mem×Int :=
 bif (nh m (ah m.aa dir).ax).1==0 then
  bif bU (ah m.aa dir).ax==(ah m.aa dir).ax.length then (m,0) else
  bif (aV m).2==0 then (m,0) else
  setName (dk (aV m).1 dir (bU (ah m.aa dir).ax) (aV m).2) (aV m).2 0 name ino
 else setName m (nh m (ah m.aa dir).ax).1 (nh m (ah m.aa dir).ax).2 name ino
theorem C8 {m:Mem} (h:1<=m.Next) (d:bE):0<=(dz m d).2/\(dz m d).2<=(dz m d).1.Next-1/\m.Next<=(dz m d).1.Next:=by
 simp only [dz]
 cases fq m with
 | false=>simp only [zF]; omega
 | true=>simp only [zE]; omega
theorem cC.setName {m:Mem} (h:cC m) {p s ino:Int} {name:ByteArray} (p1:1<=p) (p2:p<=16) (hd:(aO m.aa p).cp=true) (s0:0<=s) (s1:s<=3) (hs:bN name=true) (i1:1<=ino) (i2:ino<=8) :
  cC (Soft.setName m p s name ino).1:=by
 have hb:fY (fb (aO m.aa p) s.toNat ⟨name,ino⟩)=true:=u5 (h.d.n9 p1 p2) hd _ (by
  simp only [pd,Bool.or_eq_true,zB,aj]
  exact Or.inr ⟨hs,i1,i2⟩)
 have h1:=((h.xZ (h.d.pL p hb)).mark (aE p)).mark 0
 have n1:=h.n1
 refine h1.put _ ?_ rfl ⟨by show eS.size<=cL; decide,Nat.zero_le _⟩
 simp only [bO,zB,aj]
 refine ⟨⟨by omega,by omega⟩,⟨by decide,by decide⟩,⟨i1,i2⟩,⟨by decide,by decide⟩,⟨by omega,p2⟩,⟨s0,s1⟩,by decide,by omega⟩
theorem px {x:aX} (h:bx x=true) (hk:x.Kind≠0) (i:Nat) {p:Int} (p1:0<=p) (p2:p<=16):bx (gC x i p)=true:=by
 have hb:(x.Kind != 0)=true:=by simpa using hk
 simp only [bx,gC,zB,aj,List.length_set,List.all_eq_true] at h ⊢
 refine ⟨h.1,h.2.1,h.2.2.1,fun y hy=> ?_,h.2.2.2.2⟩
 rcases mem_set hy with hy | rfl
 ·exact h.2.2.2.1 y hy
 ·exact ⟨⟨p1,p2⟩,by rw [hb]; rfl⟩
theorem Iv {d:aa} (h:d.ab.length=16) {p:Int} (p1:1<=p) (p2:p<=16) (b:Block):aO (b9 d p b) p=b:=by
 have:=x5 (d:=d) (l:=d.ab) (i:=p) (j:=p) (x:=b) p1 (by omega) p1
 rw [beq_self_eq_true,zE] at this
 exact this
theorem cC.dk {m:Mem} (h:cC m) {dir r:Int} {x:Nat} (d1:1<=dir) (d2:dir<=8) (hk:(ah m.aa dir).Kind≠0) (hx:x<=1) (r1:1<=r) (r2:r<=16) :
  cC (Soft.dk m dir x r)/\aO (Soft.dk m dir x r).aa r=⟨true,List.replicate 4 au,eS⟩:=by
 have hb:fY ⟨true,List.replicate 4 au,eS⟩=true:=by decide
 have h1:=(((h.xZ ((h.d.pL r hb).mW dir (px (h.d.sK d1 d2) hk x (by omega:(0:Int)<=r) r2))).mark (aE r)).mark (aM dir))
 have n1:=h.n1
 constructor
 ·refine h1.put _ ?_ rfl ⟨by show eS.size<=cL; decide,Nat.zero_le _⟩
  simp only [bO,zB,aj]
  refine ⟨⟨by omega,by omega⟩,⟨by decide,by decide⟩,⟨d1,d2⟩,⟨by omega,by omega⟩,⟨by omega,r2⟩,⟨by decide,by decide⟩,by decide,by omega⟩
 ·simp only [Soft.dk]
  rw [yu]
  exact Iv h.d.db r1 r2 _
theorem C1 {n:Nat} (hn:bn<=n) (m:Mem) (h:cC m) {dir ino:Int} (d1:1<=dir) (d2:dir<=8) (hk:(ah m.aa dir).Kind≠0) {name:ByteArray} (hs:bN name=true) (i1:1<=ino) (i2:ino<=8) (k:Int->Mem->Option R) :
  qf n dir name ino m k=k (dL m dir name ino).2 (dL m dir name ino).1:=by
 have PB:=h.d.di
 have SH:=h.d.db
 have Hs:=h.d.th d1 d2
 have e0:m.aa.ad.getD (dir-1).toNat ay=ah m.aa dir:=rfl
 simp only [qf]
 rw [bR (by omega) (by omega),ai (bB d1 (by omega)),Uk hn m h.EZ _ (by rw [e0,Hs]; decide),e0]
 simp only [dL]
 have last:∀ (m:Mem) (h:cC m) (p s:Int) (p1:1<=p) (p2:p<=16) (hd:(aO m.aa p).cp=true) (s0:0<=s) (s1:s<=3),
   (aK (bc (p-1) m.aa.ab.length)<|aK (bc s (((m.aa.ab.getD (p-1).toNat aA).an).length)) <|
    bV p fun D1 =>
    bX D1 ⟨⟨m.aa.aq,m.aa.ad,m.aa.ab.set (p-1).toNat ⟨(m.aa.ab.getD (p-1).toNat aA).cp,((m.aa.ab.getD (p-1).toNat aA).an).set s.toNat ⟨name,ino⟩,(m.aa.ab.getD (p-1).toNat aA).Text⟩⟩,m.ak,m.ae,m.Next⟩ fun Qn =>
    bX 0 ⟨⟨m.aa.aq,m.aa.ad,m.aa.ab.set (p-1).toNat ⟨(m.aa.ab.getD (p-1).toNat aA).cp,((m.aa.ab.getD (p-1).toNat aA).an).set s.toNat ⟨name,ino⟩,(m.aa.ab.getD (p-1).toNat aA).Text⟩⟩,Qn.ak,m.ae,Qn.Next⟩ fun Qm =>
    iB n ⟨⟨m.aa.aq,m.aa.ad,m.aa.ab.set (p-1).toNat ⟨(m.aa.ab.getD (p-1).toNat aA).cp,((m.aa.ab.getD (p-1).toNat aA).an).set s.toNat ⟨name,ino⟩,(m.aa.ab.getD (p-1).toNat aA).Text⟩⟩,Qm.ak,m.ae,Qm.Next⟩ ⟨0,2,ino,0,p,s,eS,false,false,0,[]⟩ fun uC uw =>
    k uw uC)=k (setName m p s name ino).2 (setName m p s name ino).1:=by
  intro m h p s p1 p2 hd s0 s1
  have SH:=h.d.db
  have e1:m.aa.ab.getD (p-1).toNat aA=aO m.aa p:=rfl
  have hb:fY (fb (aO m.aa p) s.toNat ⟨name,ino⟩)=true:=u5 (h.d.n9 p1 p2) hd _ (by
   simp only [pd,Bool.or_eq_true,zB,aj]
   exact Or.inr ⟨hs,i1,i2⟩)
  rw [ai (bB p1 (by omega)),e1,ai (by rw [dg (h.d.n9 p1 p2) hd]; simp only [bc,zB,zD]; omega),ea,dj,jP,dj,jP]
  refine (qe hn _ (((h.xZ (h.d.pL p hb)).mark (aE p)).mark 0).EZ _ (Nat.zero_le _) _).trans ?_
  rfl
 rcases Bn m (ah m.aa dir).ax with e | f
 ·rw [e]
  simp only [beq_self_eq_true,zE]
  have Za:=Ru (R:=R) (dir-1).toNat m.aa.ad (by rw [e0,Hs]; decide)
  rw [e0] at Za
  refine (Za _ (ah m.aa dir).ax 0 n rfl (Nat.zero_le _) (by rw [Hs]; exact aP hn (by decide))).trans ?_
  rw [Nat.zero_add,dN]
  have hz:=q9 (ah m.aa dir).ax
  cases hc:bU (ah m.aa dir).ax==(ah m.aa dir).ax.length with
  | true=>rfl
  | false =>
   have fM:bU (ah m.aa dir).ax<2:=by
    have:¬ bU (ah m.aa dir).ax=(ah m.aa dir).ax.length:=by simpa using hc
    omega
   simp only [zF]
   rw [wM hn m h.EZ]
   obtain ⟨t,t1,t2,t3,t4,t5⟩:=ox h
   cases hr:(aV m).2==0 with
   | true=>rfl
   | false =>
    have cz:1<=(aV m).2/\(aV m).2<=16:=t3.resolve_left (by rw [hr]; decide)
    have Jv:ah (aV m).1.aa dir=ah m.aa dir:=by simp only [ah,t4]
    have iY:(ah (aV m).1.aa dir).Kind≠0:=by rw [Jv]; exact hk
    obtain ⟨g,gb⟩:=t.dk (x:=bU (ah m.aa dir).ax) d1 d2 iY (by omega) cz.1 cz.2
    generalize aV m=tb at *
    simp only [zF]
    rw [xG,bR (by omega) (by omega),ai (bB cz.1 (by rw [t.d.db]; exact cz.2)),ai (bB d1 (by rw [t.d.di]; exact d2))]
    have e2:tb.1.aa.ad.getD (dir-1).toNat ay=ah tb.1.aa dir:=rfl
    rw [e2,ai (by rw [t.d.th d1 d2]; simp only [bc,zB,zD]; omega),ea,dj,jP,gi,dj,jP,zC]
    have hb:fY ⟨true,List.replicate 4 au,eS⟩=true:=by decide
    have h1:=(((t.xZ ((t.d.pL tb.2 hb).mW dir (px (t.d.sK d1 d2) iY (bU (ah m.aa dir).ax) (by omega:(0:Int)<=tb.2) cz.2))).mark (aE tb.2)).mark (aM dir))
    refine (qe hn _ h1.EZ _ (Nat.zero_le _) _).trans ?_
    exact last (dk tb.1 dir (bU (ah m.aa dir).ax) tb.2) g tb.2 0 cz.1 cz.2 (by rw [gb]) (by decide) (by decide)
 ·generalize nh m (ah m.aa dir).ax=a at f
  have cR:(a.1==0)=false:=by have:=f.p1; simp; omega
  have p2:=f.p2
  have s1:=f.s1
  rw [SH] at p2
  rw [dg (h.d.n9 f.p1 p2) f.dir] at s1
  simp only [cR,zF]
  have p1:=f.p1
  rw [bR (by omega) (by omega)]
  exact last m h a.1 a.2 f.p1 p2 f.dir f.s0 (by omega)
theorem z9 {m:Mem} (h:1<=m.Next) (p s:Int) (name:ByteArray) (ino:Int):0<=(setName m p s name ino).2/\(setName m p s name ino).2<=(setName m p s name ino).1.Next-1/\m.Next<=(setName m p s name ino).1.Next :=
 C8 (m:=⟨b9 m.aa p (fb (aO m.aa p) s.toNat ⟨name,ino⟩),bP 0 (bP (aE p) m.ak),m.ae,m.Next⟩) h ⟨0,2,ino,0,p,s,eS,false,false,0,[]⟩
theorem Fc {m:Mem} (h:1<=m.Next) (dir:Int) (x:Nat) (r:Int):m.Next<=(dk m dir x r).Next :=
 (C8 (m:=⟨aR (b9 m.aa r ⟨true,List.replicate 4 au,eS⟩) dir (gC (ah m.aa dir) x r),bP (aM dir) (bP (aE r) m.ak),m.ae,m.Next⟩) h ⟨0,1,dir,x,r,0,eS,false,false,0,[]⟩).2.2
theorem cC.dL {m:Mem} (h:cC m) {dir ino:Int} (d1:1<=dir) (d2:dir<=8) (hk:(ah m.aa dir).Kind≠0) {name:ByteArray} (hs:bN name=true) (i1:1<=ino) (i2:ino<=8) :
  cC (Soft.dL m dir name ino).1/\0<=(Soft.dL m dir name ino).2/\(Soft.dL m dir name ino).2<=(Soft.dL m dir name ino).1.Next-1/\m.Next<=(Soft.dL m dir name ino).1.Next:=by
 have SH:=h.d.db
 have Hs:=h.d.th d1 d2
 have n1:=h.n1
 simp only [Soft.dL]
 rcases Bn m (ah m.aa dir).ax with e | f
 ·rw [e]
  simp only [beq_self_eq_true,zE]
  have hz:=q9 (ah m.aa dir).ax
  cases hc:bU (ah m.aa dir).ax==(ah m.aa dir).ax.length with
  | true=>exact ⟨h,Int.le_refl 0,by simp only [zE]; omega,Int.le_refl _⟩
  | false =>
   have fM:bU (ah m.aa dir).ax<2:=by
    have:¬ bU (ah m.aa dir).ax=(ah m.aa dir).ax.length:=by simpa using hc
    omega
   simp only [zF]
   obtain ⟨t,t1,t2,t3,t4,t5⟩:=ox h
   cases hr:(aV m).2==0 with
   | true=>exact ⟨h,Int.le_refl 0,by simp only [zE]; omega,Int.le_refl _⟩
   | false =>
    have cz:1<=(aV m).2/\(aV m).2<=16:=t3.resolve_left (by rw [hr]; decide)
    have Jv:ah (aV m).1.aa dir=ah m.aa dir:=by simp only [ah,t4]
    have iY:(ah (aV m).1.aa dir).Kind≠0:=by rw [Jv]; exact hk
    obtain ⟨g,gb⟩:=t.dk (x:=bU (ah m.aa dir).ax) d1 d2 iY (by omega) cz.1 cz.2
    have gn:(aV m).1.Next<=(Soft.dk (aV m).1 dir (bU (ah m.aa dir).ax) (aV m).2).Next:=Fc t.n1 _ _ _
    have si:=z9 g.n1 (aV m).2 0 name ino
    exact ⟨g.setName cz.1 cz.2 (by rw [gb]) (by decide) (by decide) hs i1 i2,si.1,si.2.1,by simp only [zF]; omega⟩
 ·generalize nh m (ah m.aa dir).ax=a at f
  have cR:(a.1==0)=false:=by have:=f.p1; simp; omega
  have p2:=f.p2
  have s1:=f.s1
  rw [SH] at p2
  rw [dg (h.d.n9 f.p1 p2) f.dir] at s1
  simp only [cR,zF]
  have si:=z9 n1 a.1 a.2 name ino
  exact ⟨h.setName f.p1 p2 f.dir f.s0 (by omega) hs i1 i2,si.1,si.2.1,si.2.2⟩
def nj (m:Mem) (p s:Int):Mem:=⟨b9 m.aa p (fb (aO m.aa p) s.toNat ⟨eS,0⟩),bP (aE p) m.ak,m.ae,m.Next⟩
def pJ (m:Mem) (p s:Int):Slot:=(aO m.aa p).an.getD s.toNat au
def eD (m:Mem) (p s «by»:Int):Mem :=
 bif (ie m (eY m p s)==2)||(ie m (eY m p s)==3) then ix (pJ m p s).Ino (shown (eY m p s) «by» (nj m p s))
 else (dz (nj m p s) ⟨0,4,(pJ m p s).Ino,0,p,s,(pJ m p s).Name,false,false,«by»,[]⟩).1
theorem cC.nj {m:Mem} (h:cC m) {p s:Int} (p1:1<=p) (p2:p<=16) (hd:(aO m.aa p).cp=true):cC (Soft.nj m p s) :=
 (h.xZ (h.d.pL p (u5 (h.d.n9 p1 p2) hd s.toNat (s:=⟨eS,0⟩) (by decide)))).mark (aE p)
theorem Ly {m:Mem} (h:cC m) {p s:Int} (p1:1<=p) (p2:p<=16) (hd:(aO m.aa p).cp=true) (s0:0<=s) (s1:s<=3):pd (pJ m p s)=true :=
 sV (h.d.n9 p1 p2) hd (aY au (by rw [dg (h.d.n9 p1 p2) hd]; omega))
theorem IH {s:Slot} (h:pd s=true):s.Name.size<=6:=by
 simp only [pd,Bool.or_eq_true,zB,beq_iff_eq] at h
 rcases h with h | h
 ·rw [h.1]; decide
 ·exact (eW h.1).2
theorem cC.eD {m:Mem} (h:cC m) {p s b:Int} (p1:1<=p) (p2:p<=16) (hd:(aO m.aa p).cp=true) (s0:0<=s) (s1:s<=3) (hi:within (pJ m p s).Ino 1 8=true) (b0:0<=b) (b1:b<=m.Next-1):cC (Soft.eD m p s b):=by
 have g:=h.nj (s:=s) p1 p2 hd
 have n1:=h.n1
 rw [aj] at hi
 simp only [Soft.eD]
 cases (ie m (eY m p s)==2)||(ie m (eY m p s)==3) with
 | true=>exact (g.shown _ _ b0 b1).ix hi.1 hi.2
 | false =>
  refine g.put _ ?_ rfl ⟨Nat.le_trans (IH (Ly h p1 p2 hd s0 s1)) (by decide),Nat.zero_le _⟩
  have gn:(Soft.nj m p s).Next=m.Next:=rfl
  simp only [bO,zB,aj,gn]
  refine ⟨⟨by omega,by omega⟩,⟨by decide,by decide⟩,hi,⟨by decide,by decide⟩,⟨by omega,p2⟩,⟨s0,s1⟩,b0,by omega⟩
theorem B0 {n:Nat} (hn:bn<=n) {m:Mem} (h:cC m) {p s b:Int} (p1:1<=p) (p2:p<=16) (hd:(aO m.aa p).cp=true) (s0:0<=s) (s1:s<=3) (hi:within (pJ m p s).Ino 1 8=true) (b0:0<=b) (b1:b<=m.Next-1) (k:Mem->Option R) :
  nL n p s b m k=k (eD m p s b):=by
 have SH:=h.d.db
 have g:=h.nj (s:=s) p1 p2 hd
 have e1:m.aa.ab.getD (p-1).toNat aA=aO m.aa p:=rfl
 rw [aj] at hi
 simp only [nL]
 rw [bR (by omega) (by omega),ai (bB p1 (by omega)),e1,ai (by rw [dg (h.d.n9 p1 p2) hd]; simp only [bc,zB,zD]; omega),
  vZ hn m h.EZ.dp,AT hn _ m h.EZ.dp,ai (bB p1 (by omega)),ai (by rw [dg (h.d.n9 p1 p2) hd]; simp only [bc,zB,zD]; omega),ea,dj,jP]
 simp only [eD]
 cases hc:(ie m (eY m p s)==2)||(ie m (eY m p s)==3) with
 | true =>
  simp only [zE]
  have sh:=g.shown (eY m p s) b b0 b1
  refine (yx hn (nj m p s) g.EZ (eY m p s) b _).trans ?_
  have hl:within (ah (shown (eY m p s) b (nj m p s)).aa (pJ m p s).Ino).Links 0 200=true:=by
   have:=sh.d.sK hi.1 hi.2
   simp only [bx,zB] at this
   exact this.2.1
  refine (A4 hn _ sh.EZ (pJ m p s).Ino hi.1 (by rw [sh.d.di]; exact hi.2) hl (by rw [sh.d.th hi.1 hi.2]; decide) _).trans ?_
  rfl
 | false =>
  simp only [zF]
  refine (qe hn (nj m p s) g.EZ _ (Nat.zero_le _) _).trans ?_
  rfl
theorem tp (d:aa):∀ (l:List ByteArray) (i:Int),(i=0\/(1<=i/\i<=d.ad.length))->(cA d i l=0\/(1<=cA d i l/\cA d i l<=d.ad.length))
 | [],i,h=>h
 | x::l,i,h=>by
  simp only [cA]
  cases hw:within (find d i x).2.2 1 d.ad.length with
  | false=>exact .inl rfl
  | true=>exact tp d l _ (.inr (aj.1 hw))
theorem ld {d:aa} (h:d.ad.length=8) (p:ByteArray):aD d p=0\/(1<=aD d p/\aD d p<=8):=by
 simp only [aD]
 cases (aN p).2 with
 | false=>exact .inl rfl
 | true =>
  have:=tp d (aN p).1 1 (.inr ⟨by omega,by omega⟩)
  rw [h] at this
  exact this
theorem mr (p:ByteArray):(ao p).1.size<=cL/\(ao p).2.1.size<=cL/\((ao p).2.2=true->bN (ao p).2.1=true):=by
 simp only [ao]
 cases hc: !(aN p).2||(aN p).1.length==0 with
 | true=>exact ⟨by show eS.size<=cL; decide,by show eS.size<=cL; decide,fun h=>by cases h⟩
 | false =>
  rw [Bool.or_eq_false_iff] at hc
  have hl:¬ (aN p).1.length=0:=by simpa using hc.2
  rcases m5 p with e | e | ⟨_,e,l4⟩
  ·rw [e] at hl; exact absurd rfl hl
  ·rw [e] at hl; exact absurd rfl hl
  ·have Ck:∀ x∈(aN p).1.dropLast,x∈(aN p).1:=fun x hx=>(List.dropLast_sublist _).subset hx
   have hm:bN ((aN p).1.getD ((aN p).1.length-1) eS)=true:=List.all_eq_true.1 e _ (aY eS (by omega))
   have hd:∀ x∈(aN p).1.dropLast,x.size<=6:=fun x hx=>(eW (List.all_eq_true.1 e x (Ck x hx))).2
   have hj:(eX (aN p).1.dropLast).size<=cL:=by
    have:=uI _ eS hd
    have l:(aN p).1.dropLast.length=(aN p).1.length-1:=List.length_dropLast
    have e0:eS.size=0:=rfl
    exact Nat.le_trans this (by rw [l,e0]; show _<=2097152; omega)
   refine ⟨?_,Nat.le_trans (eW hm).2 (by decide),fun _=>hm⟩
   simp only [zF]
   cases eX (aN p).1.dropLast==eS with
   | true=>show (S [47]).size<=cL; decide
   | false=>exact hj
theorem fC.t {m:Mem} (h:fC m) (hs:eK m):cC m:=⟨h.d.t,h.dy,h.dp,h.n1,h.n2,h.num,h.bs,hs.dep⟩
def room (m:Mem):Bool:=decide ((m.ae.length:Int)<=32)&&decide (m.Next<=99000)
def je (t:Mem×Int) (kind:Int):Mem:=⟨aR t.1.aa t.2 (ba kind),bP (aM t.2) t.1.ak,t.1.ae,t.1.Next⟩
def eT (m:Mem) (p:ByteArray) (kind:Int):Mem×Int :=
 bif ((!gL m)||(!(ao p).2.2))||((!(kind==1))&&(!(kind==2))) then (m,6) else
 bif !(aD m.aa p==0) then (m,2) else
 bif aD m.aa (ao p).1==0 then (m,1) else
 bif !((ah m.aa (aD m.aa (ao p).1)).Kind==2) then (m,3) else
 bif waits m (aD m.aa (ao p).1) (ao p).2.1 then (m,5) else
 bif ((aT m).2==0)||(!room (aT m).1) then (m,4) else
 bif (dL (je (aT m) kind) (aD m.aa (ao p).1) (ao p).2.1 (aT m).2).2==0 then (m,4) else
 ((dL (je (aT m) kind) (aD m.aa (ao p).1) (ao p).2.1 (aT m).2).1,0)
theorem yw {kind:Int} (h:kind=1\/kind=2):bx (ba kind)=true:=by
 rcases h with rfl | rfl<;>decide
theorem yE {n:Nat} (hn:bn<=n) (m:Mem) (hm:eK m) (p:ByteArray) (hp:p.size<=cL) (kind:Int) (k:Mem->Int->Option R) :
  nY n m p kind k=k (eT m p kind).1 (eT m p kind).2/\((eT m p kind).1=m\/(gL m=true/\cC (eT m p kind).1)):=by
 obtain ⟨q1,q2,q3⟩:=mr p
 simp only [nY,eT]
 rw [dZ hn m hm,o4 hn p hp,ov hn m hm]
 cases hc:((!gL m)||(!(ao p).2.2))||((!(kind==1))&&(!(kind==2))) with
 | true=>exact ⟨rfl,.inl rfl⟩
 | false =>
 simp only [Bool.or_eq_false_iff,Bool.not_eq_false'] at hc
 have hR:=nG.1 hc.1.1
 have hT:=hR.t hm
 have PN:=q3 hc.1.2
 have TA:kind=1\/kind=2:=by
  have:=hc.2
  cases h1:kind==1 with
  | true=>exact .inl (by simpa using h1)
  | false =>
   cases h2:kind==2 with
   | true=>exact .inr (by simpa using h2)
   | false=>rw [h1,h2] at this; cases this
 simp only [zF]
 rw [jg hn _ hm.d p hp]
 cases h2: !(aD m.aa p==0) with
 | true=>exact ⟨rfl,.inl rfl⟩
 | false =>
 simp only [zF]
 rw [jg hn _ hm.d _ q1]
 cases h3:aD m.aa (ao p).1==0 with
 | true=>exact ⟨rfl,.inl rfl⟩
 | false =>
 have hw:=(ld hT.d.di (ao p).1).resolve_left (by simpa using h3)
 generalize aD m.aa (ao p).1=w at hw ⊢
 have PB:=hT.d.di
 simp only [zF]
 rw [bR (by omega) (by omega),ai (bB hw.1 (by omega)),show m.aa.ad.getD (w-1).toNat ay=ah m.aa w from rfl]
 cases h4: !((ah m.aa w).Kind==2) with
 | true=>exact ⟨rfl,.inl rfl⟩
 | false =>
 have r9:(ah m.aa w).Kind=2:=by simpa using h4
 simp only [zF]
 rw [yP hn m hm.dp hm.d.di w hw.1 (by omega) (by rw [hT.d.th hw.1 hw.2]; decide)]
 cases h5:waits m w (ao p).2.1 with
 | true=>exact ⟨rfl,.inl rfl⟩
 | false =>
 simp only [zF]
 rw [IT hn m hm]
 obtain ⟨t,t1,t2,t3,t4,t5⟩:=Ez hT
 simp only [jE]
 cases h6:(aT m).2==0 with
 | true=>exact ⟨rfl,.inl rfl⟩
 | false =>
 have hi:=t3.resolve_left (by rw [h6]; decide)
 generalize aT m=tk at *
 simp only [zN,zE,Bool.false_or]
 cases h7: !room tk.1 with
 | true =>
  have VV:(!(decide ((tk.1.ae.length:Int)<=32)&&decide (tk.1.Next<=99000)))=true:=h7
  rw [VV]
  exact ⟨rfl,.inl rfl⟩
 | false =>
 have VV:(!(decide ((tk.1.ae.length:Int)<=32)&&decide (tk.1.Next<=99000)))=false:=h7
 rw [VV]
 simp only [zF]
 rw [jv,bR (by omega) (by omega),ai (bB hi.1 (by rw [t.d.di]; exact hi.2)),gi,dj,jP]
 have hL:cC (je tk kind):=(t.xZ (t.d.mW tk.2 (yw TA))).mark (aM tk.2)
 have iY:(ah (je tk kind).aa w).Kind≠0:=by
  have:=DB (d:=tk.1.aa) (l:=tk.1.aa.ad) (i:=tk.2) (j:=w) (x:=ba kind) hi.1 (by rw [t.d.di]; exact hi.2) hw.1
  show (ah { tk.1.aa with ad:=tk.1.aa.ad.set (tk.2-1).toNat (ba kind) } w).Kind≠0
  rw [this]
  cases w==tk.2 with
  | true=>show kind≠0; rcases TA with rfl | rfl<;>decide
  | false =>
   show (tk.1.aa.ad.getD (w-1).toNat ay).Kind≠0
   rw [t4]
   show (ah m.aa w).Kind≠0
   rw [r9]; decide
 have Vx:=C1 (R:=R) hn (je tk kind) hL hw.1 hw.2 iY PN hi.1 hi.2
 have bS:=hL.dL hw.1 hw.2 iY PN hi.1 hi.2
 constructor
 ·refine (Vx _).trans ?_
  cases (dL (je tk kind) w (ao p).2.1 tk.2).2==0<;>rfl
 ·cases (dL (je tk kind) w (ao p).2.1 tk.2).2==0 with
  | true=>exact .inl rfl
  | false=>exact .inr ⟨hc.1.1,bS.1⟩
def pz (m:Mem) (r:Int) (s:ByteArray):Mem:=⟨b9 m.aa r ⟨false,[],s⟩,bP (aE r) m.ak,m.ae,m.Next⟩
def sC (t:Mem×Int) (w x:Int):Mem :=
 (dz ⟨aR t.1.aa w (gC (ah t.1.aa w) x.toNat t.2),bP (aM w) t.1.ak,t.1.ae,t.1.Next⟩ ⟨0,1,w,x,t.2,0,eS,false,false,0,[]⟩).1
def jD (m:Mem) (p:ByteArray) (x:Int) (s:ByteArray):Mem×Int :=
 bif (((!gL m)||(!(aN p).2))||(!within x 0 1))||(decide (16<(s.size:Int))) then (m,6) else
 bif aD m.aa p==0 then (m,1) else
 bif !((ah m.aa (aD m.aa p)).Kind==1) then (m,3) else
 bif (ah m.aa (aD m.aa p)).ax.getD x.toNat 0==0 then
  bif ((aV m).2==0)||(!room m) then (m,4) else (pz (sC (aV m) (aD m.aa p) x) (aV m).2 s,0)
 else (pz m ((ah m.aa (aD m.aa p)).ax.getD x.toNat 0) s,0)
theorem cC.pz {m:Mem} (h:cC m) (r:Int) {s:ByteArray} (hs:s.size<=16):cC (Soft.pz m r s) :=
 (h.xZ (h.d.pL r (b:=⟨false,[],s⟩) (by simpa [fY] using hs))).mark (aE r)
theorem EH {n:Nat} (hn:bn<=n) (m:Mem) (hm:eK m) (p:ByteArray) (hp:p.size<=cL) (x:Int) (s:ByteArray) (k:Mem->Int->Option R) :
  pf n m p x s k=k (jD m p x s).1 (jD m p x s).2/\((jD m p x s).1=m\/(gL m=true/\cC (jD m p x s).1)):=by
 simp only [pf,jD]
 rw [dZ hn m hm,nz hn p hp,ov hn m hm,iZ]
 cases ha:gL m with
 | false=>exact ⟨rfl,.inl rfl⟩
 | true =>
 cases hb:(aN p).2 with
 | false=>exact ⟨rfl,.inl rfl⟩
 | true =>
 cases hx:within x 0 1 with
 | false=>exact ⟨rfl,.inl rfl⟩
 | true =>
 cases hs:decide (16<(s.size:Int)) with
 | true=>exact ⟨rfl,.inl rfl⟩
 | false =>
 have hR:=nG.1 ha
 have hT:=hR.t hm
 have Cl:s.size<=16:=by have:=of_decide_eq_false hs; omega
 rw [aj] at hx
 simp only [zM,zN,Bool.or_false,zE,zF]
 rw [jg hn _ hm.d p hp]
 cases h3:aD m.aa p==0 with
 | true=>exact ⟨rfl,.inl rfl⟩
 | false =>
 have hw:=(ld hT.d.di p).resolve_left (by simpa using h3)
 generalize aD m.aa p=w at hw ⊢
 have PB:=hT.d.di
 simp only [zF]
 rw [bR (by omega) (by omega),ai (bB hw.1 (by omega)),show m.aa.ad.getD (w-1).toNat ay=ah m.aa w from rfl]
 cases h4: !((ah m.aa w).Kind==1) with
 | true=>exact ⟨rfl,.inl rfl⟩
 | false =>
 have vQ:(ah m.aa w).Kind=1:=by simpa using h4
 have hix:bc x 2=true:=by simp only [bc,zB,zD]; omega
 simp only [zF]
 rw [dZ hn m hm,ai (bB hw.1 (by omega)),ai (by rw [hT.d.th hw.1 hw.2]; exact hix)]
 cases h5:(ah m.aa w).ax.getD x.toNat 0==0 with
 | true =>
  simp only [zE]
  rw [wM hn m hm]
  obtain ⟨t,t1,t2,t3,t4,t5⟩:=ox hT
  simp only [jE]
  cases h6:(aV m).2==0 with
  | true=>exact ⟨rfl,.inl rfl⟩
  | false =>
  have hi:=t3.resolve_left (by rw [h6]; decide)
  generalize aV m=tk at *
  simp only [zN,zE,Bool.false_or]
  cases h7: !room m with
  | true =>
   have VV:(!(decide ((m.ae.length:Int)<=32)&&decide (m.Next<=99000)))=true:=h7
   rw [VV]
   exact ⟨rfl,.inl rfl⟩
  | false =>
  have VV:(!(decide ((m.ae.length:Int)<=32)&&decide (m.Next<=99000)))=false:=h7
  rw [VV]
  have Jv:ah tk.1.aa w=ah m.aa w:=by simp only [ah,t4]
  have iY:(ah tk.1.aa w).Kind≠0:=by rw [Jv,vQ]; decide
  have h1:=(t.xZ (t.d.mW w (px (t.d.sK hw.1 hw.2) iY x.toNat (by omega:(0:Int)<=tk.2) hi.2))).mark (aM w)
  have n1:=t.n1
  have hg:cC (sC tk w x):=by
   refine h1.put _ ?_ rfl ⟨by show eS.size<=cL; decide,Nat.zero_le _⟩
   simp only [bO,zB,aj]
   refine ⟨⟨by omega,by omega⟩,⟨by decide,by decide⟩,hw,hx,⟨by omega,hi.2⟩,⟨by decide,by decide⟩,by decide,by omega⟩
  simp only [zF]
  refine ⟨?_,.inr ⟨by first | exact trivial | rfl,hg.pz tk.2 Cl⟩⟩
  have e2:tk.1.aa.ad.getD (w-1).toNat ay=ah tk.1.aa w:=rfl
  rw [ai (bB hw.1 (by rw [t.d.di]; exact hw.2)),e2,ai (by rw [t.d.th hw.1 hw.2]; exact hix),gi,dj,jP]
  refine (qe hn _ h1.EZ _ (Nat.zero_le _) _).trans ?_
  have hgb:(sC tk w x).aa.ab.length=16:=hg.d.db
  have abU:(dz ⟨aR tk.1.aa w (gC (ah tk.1.aa w) x.toNat tk.2),bP (aM w) tk.1.ak,tk.1.ae,tk.1.Next⟩ ⟨0,1,w,x,tk.2,0,eS,false,false,0,[]⟩).1.aa.ab.length=16:=hgb
  rw [bR (by omega) (by omega),ai (bB hi.1 (by rw [abU]; exact hi.2)),ea,dj,jP]
  rfl
 | false =>
  simp only [zF]
  have SH:=hT.d.db
  have M5:1<=(ah m.aa w).ax.getD x.toNat 0/\(ah m.aa w).ax.getD x.toNat 0<=16:=by
   have Cj:=hT.d.sK hw.1 hw.2
   have hlen:=hT.d.th hw.1 hw.2
   simp only [bx,zB,List.all_eq_true,aj] at Cj
   have:=(Cj.2.2.2.1 _ (aY 0 (l:=(ah m.aa w).ax) (i:=x.toNat) (by omega))).1
   have cR:¬ (ah m.aa w).ax.getD x.toNat 0=0:=by simpa using h5
   omega
  refine ⟨?_,.inr ⟨by first | exact trivial | rfl,hT.pz _ Cl⟩⟩
  generalize (ah m.aa w).ax.getD x.toNat 0=r at M5 ⊢
  rw [bR (by omega) (by omega),ai (bB M5.1 (by omega)),ea,dj,jP]
  rfl
theorem xM {α:Type} (P:α->Bool) (d:α):∀ (l:List α) (j:Nat),bY P l=(j:Int)->P (l.getD j d)=true
 | [],j,h=>by
  simp only [bY] at h
  omega
 | x::l,j,h=>by
  simp only [bY] at h
  cases hp:P x with
  | true =>
   simp only [hp,zE] at h
   have:j=0:=by omega
   subst this
   exact hp
  | false =>
   simp only [hp,zF] at h
   rcases fN P l with e | ⟨j',e,hj⟩
   ·rw [e] at h
    have h':(-1:Int)=(j:Int):=h
    omega
   ·rw [e] at h
    have h':((j'+1:Nat):Int)=(j:Int):=h
    have:j=j'+1:=by omega
    subst this
    rw [List.getD_cons_succ]
    exact xM P d l j' e
structure Found (d:aa) (p s ino:Int):Prop where
 p1:1<=p
 p2:p<=16
 dir:(aO d p).cp=true
 s0:0<=s
 s1:s<=3
 eq:ino=((aO d p).an.getD s.toNat au).Ino
 i1:1<=ino
 i2:ino<=8
theorem yL {d:aa} (h:cE d) (name:ByteArray):∀ l:List Int,fX d name l=(0,0,0)\/Found d (fX d name l).1 (fX d name l).2.1 (fX d name l).2.2
 | []=> .inl rfl
 | p::l=>by
  simp only [fX]
  cases hc:((dw d p).2&&(dw d p).1.cp)&&decide (0<=fe (dw d p).1 name) with
  | false=>exact yL h name l
  | true =>
   rw [zB,zB,zD] at hc
   obtain ⟨⟨h1,h2⟩,h3⟩:=hc
   simp only [dw] at h1 h2 h3 ⊢
   cases hw:within p 1 d.ab.length with
   | false=>rw [hw] at h1; cases h1
   | true =>
    simp only [hw,zE] at h1 h2 h3 ⊢
    rw [aj,h.db] at hw
    have fM:=C2 h3
    have h4:=dg (h.n9 hw.1 hw.2) h2
    have hs:=sV (h.n9 hw.1 hw.2) h2 (aY au fM)
    have hn:(((aO d p).an.getD (fe (aO d p) name).toNat au).Name==name)=true/\¬ name=eS:=by
     have KY:=h3
     simp only [fe] at KY ⊢
     cases he:name==eS with
     | true=>rw [he] at KY; simp at KY
     | false =>
      simp only [he,zF] at KY ⊢
      have VK:¬ name=eS:=by
       intro e; rw [e] at he; simp at he
      refine ⟨?_,VK⟩
      rcases fN (fun s:Slot=>s.Name==name) (aO d p).an with e | ⟨j,e,hj⟩
      ·rw [e] at KY; omega
      ·rw [e,zC]
       exact xM (fun s:Slot=>s.Name==name) au _ j e
    have z5:1<=((aO d p).an.getD (fe (aO d p) name).toNat au).Ino/\((aO d p).an.getD (fe (aO d p) name).toNat au).Ino<=8:=by
     simp only [pd,Bool.or_eq_true,zB,aj,beq_iff_eq] at hs
     rcases hs with hs | hs
     ·exact absurd ((beq_iff_eq.1 hn.1).symm.trans hs.1) hn.2
     ·exact hs.2
    exact .inr ⟨hw.1,hw.2,h2,h3,by show fe (aO d p) name<=3; omega,rfl,z5.1,z5.2⟩
theorem find_spec {d:aa} (h:cE d) (i:Int) (name:ByteArray):find d i name=(0,0,0)\/Found d (find d i name).1 (find d i name).2.1 (find d i name).2.2:=by
 simp only [find]
 cases within i 1 d.ad.length&&(ah d i).Kind==2 with
 | false=>exact .inl rfl
 | true=>exact yL h name _
def tn (m:Mem) (f:Int×Int×Int):Mem×Int :=
 bif f.2.2==0 then (m,1) else
 bif ((decide (0<((o7 m.aa f.2.2).length:Int)))||(((ah m.aa f.2.2).Kind==2)&&held m f.2.2))||(!room m) then (m,5) else
 (eD m f.1 f.2.1 0,0)
def ig (m:Mem) (p:ByteArray):Mem×Int :=
 bif (!gL m)||(!(ao p).2.2) then (m,6) else tn m (find m.aa (aD m.aa (ao p).1) (ao p).2.1)
theorem CD {n:Nat} (hn:bn<=n) (m:Mem) (hm:eK m) (p:ByteArray) (hp:p.size<=cL) (k:Mem->Int->Option R) :
  nu n m p k=k (ig m p).1 (ig m p).2/\((ig m p).1=m\/(gL m=true/\cC (ig m p).1)):=by
 obtain ⟨q1,q2,q3⟩:=mr p
 simp only [nu,ig]
 rw [dZ hn m hm,o4 hn p hp,ov hn m hm]
 cases hc:(!gL m)||(!(ao p).2.2) with
 | true=>exact ⟨rfl,.inl rfl⟩
 | false =>
 simp only [Bool.or_eq_false_iff,Bool.not_eq_false'] at hc
 have hT:=(nG.1 hc.1).t hm
 have PB:=hT.d.di
 simp only [zF]
 rw [jg hn _ hm.d _ q1,qF hn _ hm.d]
 have hf:=find_spec hT.d (aD m.aa (ao p).1) (ao p).2.1
 generalize find m.aa (aD m.aa (ao p).1) (ao p).2.1=f at hf ⊢
 simp only [tn]
 cases h1:f.2.2==0 with
 | true=>exact ⟨rfl,.inl rfl⟩
 | false =>
 have F:Found m.aa f.1 f.2.1 f.2.2:=hf.resolve_left (by intro e; rw [e] at h1; cases h1)
 have i1:=F.i1
 have i2:=F.i2
 simp only [zF]
 rw [Ib hn _ hm.d _ (fun x hx=>by rw [jf (hT.d.ino x hx)]; exact Nat.le_refl 2) (fun b hb=>by
  have h:=hT.d.oR b hb
  cases hd:b.cp with
  | true=>rw [dg h hd]; exact Nat.le_refl 4
  | false =>
   simp only [fY,hd,zF,zB,beq_iff_eq] at h
   omega)]
 rw [bR (by omega) (by omega),ai (by rw [bB i1 (by omega),Bool.or_true]),show m.aa.ad.getD (f.2.2-1).toNat ay=ah m.aa f.2.2 from rfl,
  HY hn m hm.dp hm.d.di f.2.2 i1 (by omega) (by rw [hT.d.th i1 i2]; decide)]
 simp only [jE]
 have er:(decide ((m.ae.length:Int)<=32)&&decide (m.Next<=99000))=room m:=rfl
 rw [er,dZ hn m hm]
 have hg:∀ k:Mem->Option R,nL n f.1 f.2.1 0 m k=k (eD m f.1 f.2.1 0):=fun k =>
  B0 hn hT F.p1 F.p2 F.dir F.s0 F.s1 (by rw [aj]; have:=F.eq; show 1<=((aO m.aa f.1).an.getD f.2.1.toNat au).Ino/\_; exact ⟨this▸i1,this▸i2⟩) (Int.le_refl 0) (by have:=hT.n1; omega) k
 have ht:cC (eD m f.1 f.2.1 0) :=
  hT.eD F.p1 F.p2 F.dir F.s0 F.s1 (by rw [aj]; have:=F.eq; show 1<=((aO m.aa f.1).an.getD f.2.1.toNat au).Ino/\_; exact ⟨this▸i1,this▸i2⟩) (Int.le_refl 0) (by have:=hT.n1; omega)
 rw [hg]
 cases hA:decide (0<((o7 m.aa f.2.2).length:Int))<;>cases hB:(ah m.aa f.2.2).Kind==2<;>cases hC:held m f.2.2<;>cases hD:room m <;>
  first
   | exact ⟨rfl,.inl rfl⟩
   | exact ⟨rfl,.inr ⟨hc.1,ht⟩⟩
def sd (m:Mem):Int->List ByteArray->Bool
 | _,[]=>false
 | i,x::l=>bif decide (0<(find m.aa i x).2.2)&&((ie m (eY m (find m.aa i x).1 (find m.aa i x).2.1)==2)||(ie m (eY m (find m.aa i x).1 (find m.aa i x).2.1)==3)) then true else sd m (find m.aa i x).2.2 l
def deep (m:Mem) (dir:ByteArray):Bool:=sd m 1 (aN dir).1
theorem HR {n:Nat} (hn:bn<=n) (m:Mem) (hm:eK m) (p:ByteArray) (hp:p.size<=cL) (k:Bool->Option R):tY n m p k=k (deep m p):=by
 simp only [tY,deep]
 rw [nz hn p hp]
 have hl:(aN p).1.length<=4:=by
  rcases m5 p with e | e | ⟨_,_,l4⟩
  ·rw [e]; exact Nat.zero_le _
  ·rw [e]; exact Nat.zero_le _
  ·exact l4
 generalize (aN p).1=names at hl ⊢
 have loop:∀ (ps:List ByteArray) (j mm:Nat) (i:Int),ps=names.drop j->j<=names.length->ps.length<mm ->
   jM n names m.aa.aq.ab m.aa.aq.bD m.aa.ad m.aa.ab m.ak m.ae (fun x=>k x) (k false) mm i (j:Int) m.Next=k (sd m i ps):=by
  intro ps
  induction ps with
  | nil =>
   intro j mm i h1 h2 h3
   have:j=names.length:=by have:=congrArg List.length h1; simp at this; omega
   cases mm with
   | zero=>simp at h3
   | succ mm=>simp [jM,sd,this]
  | cons x ps ih =>
   intro j mm i h1 h2 h3
   have hj:j<names.length:=by have:=congrArg List.length h1; simp at this; omega
   have Qa:=cK eS hj
   rw [← h1] at Qa; injection Qa with Vm M5
   cases mm with
   | zero=>simp at h3
   | succ mm =>
    simp only [jM,br,aJ,hj,zV,zE,bf,zC,← Vm]
    refine (qF hn m.aa hm.d i x _).trans ?_
    refine (vZ hn m hm.dp _ _ _).trans ?_
    refine (AT hn _ m hm.dp _).trans ?_
    simp only [sd]
    cases decide (0<(find m.aa i x).2.2)&&((ie m (eY m (find m.aa i x).1 (find m.aa i x).2.1)==2)||(ie m (eY m (find m.aa i x).1 (find m.aa i x).2.1)==3)) with
    | true=>rfl
    | false =>
     simp only [zF]
     rw [bH (by omega)]
     exact ih (j+1) mm _ M5 (by omega) (by simp at h3; omega)
 exact loop names 0 n 1 (by simp) (by omega) (aP hn (by omega))
theorem u6 {α S:Type} {L:Nat->Int->S->Option R} {l:List α} (d:α) {g:S->α->S} {q:S->Option R} {B:Nat} (hl:l.length<=4611686018427387904)
  (hs:∀ m i acc,B<m->i<l.length->L (m+1) (i:Int) acc=L m (aC ((i:Int)+1)) (g acc (l.getD i d)))
  (hq:∀ m acc,L (m+1) (l.length:Int) acc=q acc):∀ (r j n:Nat) (acc:S),j+r=l.length->r+B<n->L n (j:Int) acc=q ((l.drop j).foldl g acc)
 | 0,j,n,acc,hj,hn=>by
  cases n with
  | zero=>omega
  | succ n =>
   have:j=l.length:=by omega
   subst this
   rw [hq,List.drop_length]; rfl
 | r+1,j,n,acc,hj,hn=>by
  cases n with
  | zero=>omega
  | succ n =>
   rw [hs n j acc (by omega) (by omega),bH (by omega),cK d (by omega:j<l.length),List.foldl_cons]
   exact u6 d hl hs hq r (j+1) n _ (by omega) (by omega)
def xy (i:Int) (v:List Int) (d:bE):List Int:=bif (((d.Kind==1)&&(d.Ino==i))&&(decide (0<=d.Ptr)))&&(decide (d.Ptr<(v.length:Int))) then v.set d.Ptr.toNat 0 else v
def kJ (m:Mem) (i:Int):aX:=bif within i 1 m.aa.ad.length then ⟨(ah m.aa i).Kind,(ah m.aa i).Links,m.ae.foldl (xy i) (ah m.aa i).ax⟩ else ba 0
theorem CB {n:Nat} (hn:bn<=n) (m:Mem) (hm:eK m) (i:Int) (k:aX->Option R):nr n m i k=k (kJ m i):=by
 have PB:m.aa.ad.length<=2097152:=hm.d.di
 have Wm:m.ae.length<=2097152:=hm.dp
 simp only [nr,iZ,kJ]
 cases hw:within i 1 m.aa.ad.length with
 | false=>rfl
 | true =>
  rw [aj] at hw
  simp only [zM,zF,zE]
  rw [bR (by omega) (by omega),ai (bB hw.1 hw.2),show m.aa.ad.getD (i-1).toNat ay=ah m.aa i from rfl,
   vm (ah m.aa i) (hm.d.ino _ (aY ay (l:=m.aa.ad) (i:=(i-1).toNat) (by omega)))]
  have:=u6 (R:=R) (L:=ff i m.ae (fun v=>k ⟨(ah m.aa i).Kind,(ah m.aa i).Links,v⟩)) (l:=m.ae) aH (g:=xy i) (q:=fun v=>k ⟨(ah m.aa i).Kind,(ah m.aa i).Links,v⟩) (B:=0) (by omega)
   (fun mm j acc _ hj=>by
    simp only [ff,br,aJ,hj,zV,bf,zE,zC,xy]
    cases hc:((((m.ae.getD j aH).Kind==1)&&((m.ae.getD j aH).Ino==i))&&(decide (0<=(m.ae.getD j aH).Ptr)))&&(decide ((m.ae.getD j aH).Ptr<(acc.length:Int))) with
    | false=>rfl
    | true =>
     simp only [zB] at hc
     simp only [zE]
     rw [ai (by simp only [bc,zB]; exact ⟨hc.1.2,hc.2⟩)])
   (fun mm acc=>by simp [ff]) m.ae.length 0 n (ah m.aa i).ax (by omega) (aP hn (by omega))
  rw [List.drop_zero] at this
  exact this
def nA (p:Int) (v:List Slot) (d:bE):List Slot :=
 bif ((!(d.Block==p))||(decide (d.Slot<0)))||(decide ((v.length:Int)<=d.Slot)) then v else
 bif d.Kind==2 then v.set d.Slot.toNat ⟨eS,0⟩ else
 bif (d.Kind==4)&&(decide (0<d.bz)) then v.set d.Slot.toNat ⟨d.Name,d.Ino⟩ else v
def mg (m:Mem) (p:Int):Block:=bif within p 1 m.aa.ab.length then ⟨(aO m.aa p).cp,m.ae.foldl (nA p) (aO m.aa p).an,(aO m.aa p).Text⟩ else aA
theorem CE {n:Nat} (hn:bn<=n) (m:Mem) (hm:eK m) (p:Int) (k:Block->Option R):ny n m p k=k (mg m p):=by
 have SH:m.aa.ab.length<=2097152:=hm.d.db
 have Wm:m.ae.length<=2097152:=hm.dp
 simp only [ny,iZ,mg]
 cases hw:within p 1 m.aa.ab.length with
 | false=>rfl
 | true =>
  rw [aj] at hw
  simp only [zM,zF,zE]
  rw [bR (by omega) (by omega),ai (bB hw.1 hw.2),show m.aa.ab.getD (p-1).toNat aA=aO m.aa p from rfl,
   vu (aO m.aa p) (hm.d.oR _ (aY aA (l:=m.aa.ab) (i:=(p-1).toNat) (by omega))).1]
  have:=u6 (R:=R) (L:=cZ p m.ae (fun v=>k ⟨(aO m.aa p).cp,v,(aO m.aa p).Text⟩)) (l:=m.ae) aH (g:=nA p) (q:=fun v=>k ⟨(aO m.aa p).cp,v,(aO m.aa p).Text⟩) (B:=0) (by omega)
   (fun mm j acc _ hj=>by
    simp only [cZ,br,aJ,hj,zV,bf,zE,zC,nA]
    cases hc:((!((m.ae.getD j aH).Block==p))||(decide ((m.ae.getD j aH).Slot<0)))||(decide ((acc.length:Int)<=(m.ae.getD j aH).Slot)) with
    | true=>rfl
    | false =>
     simp only [Bool.or_eq_false_iff,decide_eq_false_iff_not] at hc
     have hr:bc (m.ae.getD j aH).Slot acc.length=true:=by simp only [bc,zB,zD]; omega
     simp only [zF]
     cases h2:(m.ae.getD j aH).Kind==2 with
     | true =>
      have e2:(m.ae.getD j aH).Kind=2:=by simpa using h2
      have h4:((m.ae.getD j aH).Kind==4)=false:=by rw [e2]; rfl
      simp only [zE,h4,Bool.false_and,zF]
      rw [ai hr]
     | false =>
      simp only [zF]
      cases ((m.ae.getD j aH).Kind==4)&&(decide (0<(m.ae.getD j aH).bz)) with
      | true=>simp only [zE]; rw [ai hr]
      | false=>rfl)
   (fun mm acc=>by simp [cZ]) m.ae.length 0 n (aO m.aa p).an (by omega) (aP hn (by omega))
  rw [List.drop_zero] at this
  exact this
def B2 (d:aa) (u:Int):ByteArray :=
 bif u==0 then A0 d.aq else
 bif decide (u<=4) then nP (d.ad.getD (2*u-2).toNat ay)++nP (d.ad.getD (2*u-1).toNat ay) else
 nS (d.ab.getD (u-5).toNat aA)
theorem sS (x:aX):(nP x).size<=4:=by
 simp only [nP]
 cases bx x with
 | false=>show eS.size<=4; decide
 | true=>exact Nat.le_refl 4
theorem BK {n:Nat} (hn:bn<=n) (d:aa) (h:cE d) (u:Int) (h0:0<=u) (h1:u<=20) (k:ByteArray->Option R):qk n d u k=k (B2 d u):=by
 have PB:=h.di
 have SH:=h.db
 simp only [qk,B2]
 cases e0:u==0 with
 | true=>simp only [zE]; rw [FM hn]
 | false =>
  have n0:¬ u=0:=by simpa using e0
  simp only [zF]
  cases e4:decide (u<=4) with
  | true =>
   have n4:=of_decide_eq_true e4
   simp only [zE]
   rw [cy (n:=2*u) (by omega) (by omega),cy (n:=2*u-2) (by omega) (by omega),cy (n:=2*u-1) (by omega) (by omega),
    ai (by simp only [bc,zB,zD]; omega),wm hn,ai (by simp only [bc,zB,zD]; omega),wm hn]
   have s1:=sS (d.ad.getD (2*u-2).toNat ay)
   have s2:=sS (d.ad.getD (2*u-1).toNat ay)
   rw [ai (iK (by omega))]
  | false =>
   have n4:=of_decide_eq_false e4
   simp only [zF]
   rw [cy (n:=u-5) (by omega) (by omega),ai (by simp only [bc,zB,zD]; omega)]
   rw [w6 hn _ (Dh (h.oR _ (aY aA (by omega))))]
def wU (d:aa) (u:Int):ByteArray×Bool:=bif n6 d&&within u 0 20 then (B2 d u,true) else (eS,false)
theorem G9 {n:Nat} (hn:bn<=n) (d:aa) (hd:kj d) (u:Int) (k:ByteArray->Bool->Option R):qu n d u k=k (wU d u).1 (wU d u).2:=by
 simp only [qu,wU,iZ]
 rw [xB hn d hd]
 cases h1:n6 d with
 | false=>rfl
 | true =>
  cases h2:within u 0 20 with
  | false=>rfl
  | true =>
   rw [aj] at h2
   simp only [zM,zN,zE,zF,Bool.or_false,Bool.and_true]
   rw [BK hn d (lZ.1 h1).t u h2.1 h2.2]
def CZ (s:ByteArray):Bool:= !decide (60<(s.size:Int))
def dV (d:Device):Bool:=d.cq.all CZ&&(d.cq.length==21)
theorem ta {n:Nat} (hn:bn<=n) (d:Device) (hd:d.cq.length<=cL) (k:Bool->Option R):n8 n d k=k (dV d):=by
 have Ca:d.cq.length<=2097152:=hd
 have:=iG (R:=R) (L:=iF d.cq (fun x=>k x) (k ((d.cq.length:Int)==21))) (l:=d.cq) eS (B:=0) (P:=CZ) (e:=k false) (q:=k ((d.cq.length:Int)==21)) (by omega)
  (fun m i _ hi=>by
   simp only [iF,br,aJ,hi,zV,bf,zE,zC,CZ]
   cases decide (60<((d.cq.getD i eS).size:Int))<;>rfl) (fun m=>by simp [iF]) (n:=n) (aP hn (by omega))
 refine this.trans ?_
 simp only [dV]
 rw [show (21:Int)=((21:Nat):Int) from rfl,dN]
 cases d.cq.all CZ<;>rfl
def ga (d:Device) (u:Int) (s:ByteArray):Device×Bool :=
 bif ((!dV d)||(!within u 0 20))||(decide (60<(s.size:Int))) then (d,false) else (⟨d.cq.set u.toNat s⟩,true)
theorem Fi {n:Nat} (hn:bn<=n) (d:Device) (hd:d.cq.length<=cL) (u:Int) (s:ByteArray) (k:Device->Bool->Option R):py n d u s k=k (ga d u s).1 (ga d u s).2:=by
 have Ca:d.cq.length<=2097152:=hd
 simp only [py,ga,iZ,List.nil_append]
 rw [ai (cn (by omega)),ta hn d hd]
 cases h1:dV d with
 | false=>rfl
 | true =>
  cases h2:within u 0 20 with
  | false=>rfl
  | true =>
   cases h3:decide (60<(s.size:Int)) with
   | true=>rfl
   | false =>
    rw [aj] at h2
    simp only [dV,zB,beq_iff_eq] at h1
    simp only [zM,zN,zE,zF,Bool.or_false]
    rw [ai (by simp only [bc,zB,zD]; omega)]
def Lb (f:Fs):Bool:=gL f.Mem&&dV f.Device
theorem R1 {n:Nat} (hn:bn<=n) (f:Fs) (hm:eK f.Mem) (hd:f.Device.cq.length<=cL) (k:Bool->Option R):EX n f k=k (Lb f):=by
 simp only [EX,Lb]
 rw [ov hn _ hm,ta hn _ hd]
 cases gL f.Mem<;>rfl
theorem vz {n:Nat} (hn:bn<=n) (f:Fs) (hm:eK f.Mem) (hd:f.Device.cq.length<=cL) (k:Fs->Option R):nO n f k=k f:=by
 have Ca:f.Device.cq.length<=2097152:=hd
 simp only [nO,List.nil_append]
 rw [dZ hn _ hm,ai (cn (by omega))]
theorem z8 {α:Type} {L:Nat->Int->List α->Option R} {len B:Nat} {f:Nat->α} {q:List α->Option R}
  (hs:∀ m j v,B<m->j<len->v.length=len->L (m+1) ((j+1:Nat):Int) v=L m ((j+2:Nat):Int) (v.set j (f j)))
  (hq:∀ m v,L (m+1) ((len+1:Nat):Int) v=q v):∀ (r j n:Nat) (b:List α),j+r=len->b.length=r->r+B<n ->
   L n ((j+1:Nat):Int) ((List.range' 0 j).map f++b)=q ((List.range' 0 len).map f)
 | 0,j,n,b,hj,hb,hn=>by
  cases n with
  | zero=>omega
  | succ n =>
   have:j=len:=by omega
   subst this
   have VX:b=[]:=List.length_eq_zero_iff.1 hb
   rw [hq,VX,List.append_nil]
 | r+1,j,n,b,hj,hb,hn=>by
  cases n with
  | zero=>omega
  | succ n =>
   cases b with
   | nil=>simp at hb
   | cons x b =>
    have hl:((List.range' 0 j).map f).length=j:=by simp
    rw [hs n j _ (by omega) (by omega) (by rw [zK,hl]; omega),nC _ hl]
    have:=z8 hs hq r (j+1) n b (by omega) (by simpa using hb) (by omega)
    rw [List.range'_concat,List.map_append,List.append_assoc] at this
    rw [show ((j+2:Nat):Int)=((j+1+1:Nat):Int) from rfl]
    refine Eq.trans ?_ this
    simp
def xx (m:Mem):aa:=⟨m.aa.aq,(List.range' 0 8).map fun i=>kJ m ((i+1:Nat):Int),(List.range' 0 16).map fun i=>mg m ((i+1:Nat):Int)⟩
theorem NL {n:Nat} (hn:bn<=n) (m:Mem) (hm:eK m) (h8:m.aa.ad.length=8) (q:List aX->Option R) :
  gN n m.Next m.aa.aq.ab m.aa.aq.bD m.aa.ad m.aa.ab m.ak m.ae q n 1 m.aa.ad=q ((List.range' 0 8).map fun i=>kJ m ((i+1:Nat):Int)):=by
 have Nc:100000000<=n:=hn
 have:=z8 (R:=R) (L:=gN n m.Next m.aa.aq.ab m.aa.aq.bD m.aa.ad m.aa.ab m.ak m.ae q) (len:=8) (B:=0) (f:=fun i=>kJ m ((i+1:Nat):Int)) (q:=q)
  (fun mm j v _ hj hv=>by
   have hd:decide (((j+1:Nat):Int)<=8)=true:=decide_eq_true (by omega)
   simp only [gN,hd,zE]
   refine (CB hn m hm _ _).trans ?_
   rw [cy (n:=((j+1:Nat):Int)-1) (by omega) (by omega),ai (by simp only [bc,zB,zD]; omega),cy (by omega) (by omega)]
   rw [show (((j+1:Nat):Int)-1).toNat=j by omega,show ((j+1:Nat):Int)+1=((j+2:Nat):Int) by omega])
  (fun mm v=>rfl) 8 0 n m.aa.ad (by omega) h8 (by omega)
 simpa using this
theorem Oo {n:Nat} (hn:bn<=n) (m:Mem) (hm:eK m) (h8:m.aa.ab.length=16) (q:List Block->Option R) :
  gQ n m.Next m.aa.aq.ab m.aa.aq.bD m.aa.ad m.aa.ab m.ak m.ae q n 1 m.aa.ab=q ((List.range' 0 16).map fun i=>mg m ((i+1:Nat):Int)):=by
 have Nc:100000000<=n:=hn
 have:=z8 (R:=R) (L:=gQ n m.Next m.aa.aq.ab m.aa.aq.bD m.aa.ad m.aa.ab m.ak m.ae q) (len:=16) (B:=0) (f:=fun i=>mg m ((i+1:Nat):Int)) (q:=q)
  (fun mm j v _ hj hv=>by
   have hd:decide (((j+1:Nat):Int)<=16)=true:=decide_eq_true (by omega)
   simp only [gQ,hd,zE]
   refine (CE hn m hm _ _).trans ?_
   rw [cy (n:=((j+1:Nat):Int)-1) (by omega) (by omega),ai (by simp only [bc,zB,zD]; omega),cy (by omega) (by omega)]
   rw [show (((j+1:Nat):Int)-1).toNat=j by omega,show ((j+1:Nat):Int)+1=((j+2:Nat):Int) by omega])
  (fun mm v=>rfl) 16 0 n m.aa.ab (by omega) h8 (by omega)
 simpa using this
theorem Ic (i:Int) (v:List Int) (d:bE):(xy i v d).length=v.length:=by
 simp only [xy]
 cases (((d.Kind==1)&&(d.Ino==i))&&(decide (0<=d.Ptr)))&&(decide (d.Ptr<(v.length:Int))) with
 | false=>rfl
 | true=>exact List.length_set
theorem GK (i:Int) (l:List bE):∀ v:List Int,(l.foldl (xy i) v).length=v.length:=by
 induction l with
 | nil=>intro v; rfl
 | cons d l ih=>intro v; rw [List.foldl_cons,ih,Ic]
theorem Ip (p:Int) (v:List Slot) (d:bE) (hd:rL d) (hv:∀ s∈v,Bs s):(nA p v d).length=v.length/\∀ s∈nA p v d,Bs s:=by
 simp only [nA]
 cases ((!(d.Block==p))||(decide (d.Slot<0)))||(decide ((v.length:Int)<=d.Slot)) with
 | true=>exact ⟨rfl,hv⟩
 | false =>
  cases d.Kind==2 with
  | true=>exact ⟨List.length_set,fun s hs=>(mem_set hs).elim (hv s) (fun e=>by rw [e]; show eS.size<=cL; decide)⟩
  | false =>
   cases (d.Kind==4)&&(decide (0<d.bz)) with
   | true=>exact ⟨List.length_set,fun s hs=>(mem_set hs).elim (hv s) (fun e=>by rw [e]; exact hd.1)⟩
   | false=>exact ⟨rfl,hv⟩
theorem F5 (p:Int) (l:List bE):∀ v:List Slot,(∀ d∈l,rL d)->(∀ s∈v,Bs s)->(l.foldl (nA p) v).length=v.length/\∀ s∈l.foldl (nA p) v,Bs s:=by
 induction l with
 | nil=>intro v _ h; exact ⟨rfl,h⟩
 | cons d l ih =>
  intro v hl hv
  rw [List.foldl_cons]
  have h1:=Ip p v d (hl d zO) hv
  have h2:=ih (nA p v d) (fun x hx=>hl x (zJ _ hx)) h1.2
  exact ⟨h2.1.trans h1.1,h2.2⟩
theorem Ef {m:Mem} (h:cC m):kj (xx m):=by
 have hm:=h.EZ
 refine ⟨hm.d.bb,hm.d.bi,?_,?_,?_,?_⟩
 ·show ((List.range' 0 8).map _).length<=cL; rw [List.length_map,List.length_range']; decide
 ·show ((List.range' 0 16).map _).length<=cL; rw [List.length_map,List.length_range']; decide
 ·intro x hx
  obtain ⟨i,_,rfl⟩:=List.mem_map.1 hx
  show (kJ m _).ax.length<=cL
  simp only [kJ]
  cases hw:within ((i+1:Nat):Int) 1 m.aa.ad.length with
  | false=>show (2:Nat)<=cL; decide
  | true =>
   rw [aj] at hw
   simp only [zE]
   rw [GK]
   exact hm.d.ino _ (aY ay (by omega))
 ·intro b hb
  obtain ⟨i,_,rfl⟩:=List.mem_map.1 hb
  simp only [mg]
  cases hw:within ((i+1:Nat):Int) 1 m.aa.ab.length with
  | false=>exact ⟨Nat.zero_le _,by show eS.size<=cL; decide,fun s hs=>by cases hs⟩
  | true =>
   rw [aj] at hw
   simp only [zE]
   have hb:=hm.d.oR _ (aY aA (l:=m.aa.ab) (i:=(((i+1:Nat):Int)-1).toNat) (by omega))
   have:=F5 ((i+1:Nat):Int) m.ae (aO m.aa ((i+1:Nat):Int)).an hm.dep hb.2.2
   exact ⟨Nat.le_trans (Nat.le_of_eq this.1) hb.1,hb.2.1,this.2⟩
def fa (m:Mem) (u:Int):ByteArray×Bool:=bif gL m&&within u 0 20 then wU (xx m) u else (eS,false)
theorem Fe {n:Nat} (hn:bn<=n) (m:Mem) (hm:eK m) (u:Int) (k:ByteArray->Bool->Option R):pt n m u k=k (fa m u).1 (fa m u).2:=by
 simp only [pt,fa,iZ]
 rw [ov hn m hm]
 cases h1:gL m with
 | false=>rfl
 | true =>
  cases h2:within u 0 20 with
  | false=>rfl
  | true =>
   have hT:=(nG.1 h1).t hm
   simp only [zM,zN,zE,zF,Bool.or_false,Bool.and_true]
   rw [oE hn _ hm.d,NL hn m hm hT.d.di,Oo hn m hm hT.d.db]
   exact G9 hn (xx m) (Ef hT) u _
theorem jA {α:Type} {L:Nat->Int->List α->Option R} {f:α->α} {B:Nat} {q:List α->Option R}
  (hs:∀ m (a b:List α) x,B<m->a.length+b.length<4611686018427387904->L (m+1) (a.length:Int) (a++x::b)=L m (aC ((a.length:Int)+1)) (a++f x::b))
  (hq:∀ m (a:List α),L (m+1) (a.length:Int) a=q a):∀ (b a:List α) (n:Nat),a.length+b.length<=4611686018427387904->b.length+B<n->L n (a.length:Int) (a++b)=q (a++b.map f)
 | [],a,n,hl,hn=>by
  cases n with
  | zero=>omega
  | succ n=>rw [List.append_nil,hq,List.map_nil,List.append_nil]
 | x::b,a,n,hl,hn=>by
  cases n with
  | zero=>omega
  | succ n =>
   rw [zR] at hl hn
   rw [hs n a b x (by omega) (by omega),bH (by omega)]
   have:=jA hs hq b (a++[f x]) n (by rw [zK,zL]; omega) (by omega)
   rw [List.append_assoc,List.singleton_append,zK,zL,List.append_assoc,List.singleton_append] at this
   exact this
def mI (u:Int) (d:bE):bE:=bif (u==0)&&((d.Kind==1)||(d.Kind==2)) then { d with aq:=true } else d
def mF (u:Int) (d:bE):bE:=bif ((d.Kind==2)&&(aM d.Ino==u))||((d.Kind==1)&&(aE d.Block==u)) then { d with et:=true } else d
theorem Sq (k2 k1:Bool) (a b u:Int):(((k2&&((bif k2 then a else 0)==u)))||(k1&&((bif (!(k2&&((bif k2 then a else 0)==u)))&&k1 then b else 0)==u)))=((k2&&(a==u))||(k1&&(b==u))):=by
 cases k2<;>cases k1<;>cases h:a==u<;>simp [h]
def flag (u:Int) (m:Mem):Mem:=⟨m.aa,m.ak,m.ae.map fun d=>mF u (mI u d),m.Next⟩
theorem Ir {n:Nat} (hn:bn<=n) (u:Int) (m:Mem) (hm:m.ae.length<=cL) (k:Mem->Option R):xH n u m k=k (flag u m):=by
 have K4:m.ae.length<=2097152:=hm
 have Nc:100000000<=n:=hn
 have:=jA (R:=R) (L:=fw u (fun deps=>k ⟨m.aa,m.ak,deps,m.Next⟩)) (f:=fun d=>mF u (mI u d)) (B:=0) (q:=fun deps=>k ⟨m.aa,m.ak,deps,m.Next⟩)
  (fun mm a b x _ hl=>by
   have hlen:∀ z:bE,(a++z::b).length=a.length+(b.length+1):=fun z=>by simp only [zK,zR]
   have fM:decide (a.length<a.length+(b.length+1))=true:=decide_eq_true (by omega)
   simp only [fw,zC,ob _ (rfl:a.length=a.length),nC _ (rfl:a.length=a.length),hlen,br,aJ,fM,zE,bf,gi,ea,Sq,mI]
   cases (u==0)&&((x.Kind==1)||(x.Kind==2)) with
   | true =>
    simp only [zE,mF]
    cases ((x.Kind==2)&&(aM x.Ino==u))||((x.Kind==1)&&(aE x.Block==u))<;>rfl
   | false =>
    simp only [zF,mF]
    cases ((x.Kind==2)&&(aM x.Ino==u))||((x.Kind==1)&&(aE x.Block==u))<;>rfl)
  (fun mm a=>by simp [fw]) m.ae [] n (by rw [List.length_nil]; omega) (by omega)
 exact this
theorem DP {α β S:Type} {L:Nat->Int->List β->S->Option R} {l:List α} (d:α) {f:α->β} {g:S->α->S} {B:Nat} {q:List β->S->Option R} (hl:l.length<=4611686018427387904)
  (hs:∀ m i acc st,B<m->i<l.length->acc.length=i->L (m+1) (i:Int) acc st=L m (aC ((i:Int)+1)) (acc++[f (l.getD i d)]) (g st (l.getD i d)))
  (hq:∀ m acc st,L (m+1) (l.length:Int) acc st=q acc st):∀ (r j n:Nat) (acc:List β) (st:S),j+r=l.length->acc.length=j->r+B<n->L n (j:Int) acc st=q (acc++(l.drop j).map f) ((l.drop j).foldl g st)
 | 0,j,n,acc,st,hj,ha,hn=>by
  cases n with
  | zero=>omega
  | succ n =>
   have:j=l.length:=by omega
   subst this
   rw [hq,List.drop_length]; simp
 | r+1,j,n,acc,st,hj,ha,hn=>by
  cases n with
  | zero=>omega
  | succ n =>
   rw [hs n j acc st (by omega) (by omega) ha,bH (by omega),cK d (by omega:j<l.length),List.foldl_cons,List.map_cons]
   have:=DP d hl hs hq r (j+1) n (acc++[f (l.getD j d)]) (g st (l.getD j d)) (by omega) (by rw [zK,zL]; omega) (by omega)
   rw [List.append_assoc,List.singleton_append] at this
   exact this
def pending (l:List bE) (block:Int):Bool:=l.any fun d=>((d.Kind==1)||(d.Kind==6))&&(d.Block==block)
theorem Cz {n:Nat} (hn:bn<=n) (l:List bE) (hl:l.length<=cL) (block:Int) (k:Bool->Option R):nv n l block k=k (pending l block):=by
 have xi:l.length<=2097152:=hl
 have:=iG (R:=R) (L:=gf block l (fun x=>k x) (k false)) (l:=l) aH (B:=0) (P:=fun d=> !(((d.Kind==1)||(d.Kind==6))&&(d.Block==block))) (e:=k true) (q:=k false) (by omega)
  (fun m i _ hi=>by
   simp only [gf,br,aJ,hi,zV,bf,zE,zC,Bool.or_true]
   cases (((l.getD i aH).Kind==1)||((l.getD i aH).Kind==6))&&((l.getD i aH).Block==block)<;>rfl) (fun m=>by simp [gf]) (n:=n) (aP hn (by omega))
 refine this.trans ?_
 rw [zy (fun d:bE=>((d.Kind==1)||(d.Kind==6))&&(d.Block==block)),pending]
 cases l.any _<;>rfl
def jm (l:List bE) (d:bE):bE :=
 bif ((d.Kind==1)&&d.aq)&&d.et then { d with Kind:=6 } else
 bif (((d.Kind==2)&&d.aq)&&d.et)&&(!pending l d.Block) then { d with Kind:=3 } else d
def xT (l:List bE) (y:List Bool) (d:bE):List Bool :=
 bif ((d.Kind==1)&&d.aq)&&d.et then bP (aM d.Ino) y else
 bif (((d.Kind==2)&&d.aq)&&d.et)&&(!pending l d.Block) then bP (aE d.Block) y else y
def ready (m:Mem):Mem:=⟨m.aa,m.ae.foldl (xT m.ae) m.ak,m.ae.map (jm m.ae),m.Next⟩
theorem Hn {n:Nat} (hn:bn<=n) (m:Mem) (hm:m.ae.length<=cL) (k:Mem->Option R):l9 n m k=k (ready m):=by
 have K4:m.ae.length<=2097152:=hm
 have Nc:100000000<=n:=hn
 simp only [l9,List.nil_append]
 rw [ai (cn (by omega))]
 have:=DP (R:=R) (S:=List Bool) (L:=fun mm i acc y=>fH n m.ae m.aa.aq.ab m.aa.aq.bD m.aa.ad m.aa.ab m.ae (fun next list bG=>k ⟨m.aa,bG,list,next⟩) mm i m.Next acc y) (l:=m.ae) aH
  (f:=jm m.ae) (g:=xT m.ae) (B:=0) (q:=fun list bG=>k ⟨m.aa,bG,list,m.Next⟩) (by omega)
  (fun mm i acc y _ hi ha=>by
   have hlen:∀ z:bE,bg (acc++[z])=true:=fun z=>cn (by rw [zK,zL]; omega)
   simp only [fH,br,aJ,hi,zV,bf,zE,zC,gi,ea,dj,jP,Cz hn m.ae hm,hlen,jm,xT]
   cases h1:(((m.ae.getD i aH).Kind==1)&&(m.ae.getD i aH).aq)&&(m.ae.getD i aH).et with
   | true=>rfl
   | false =>
    simp only [zF]
    cases h2:(((m.ae.getD i aH).Kind==2)&&(m.ae.getD i aH).aq)&&(m.ae.getD i aH).et with
    | false=>rfl
    | true =>
     simp only [zE,Bool.true_and]
     cases pending m.ae (m.ae.getD i aH).Block<;>rfl)
  (fun mm acc y=>by simp [fH]) m.ae.length 0 n [] m.ak (by omega) rfl (by omega)
 rw [List.drop_zero,List.nil_append] at this
 exact this
theorem qH {α S:Type} {L:Nat->Int->S->Option R} {l:List α} (d:α) (P:S->Prop) {g:S->α->S} {q:S->Option R} {B:Nat} (hl:l.length<=4611686018427387904)
  (hs:∀ m i acc,B<m->i<l.length->P acc->L (m+1) (i:Int) acc=L m (aC ((i:Int)+1)) (g acc (l.getD i d))/\P (g acc (l.getD i d)))
  (hq:∀ m acc,L (m+1) (l.length:Int) acc=q acc):∀ (r j n:Nat) (acc:S),j+r=l.length->r+B<n->P acc->L n (j:Int) acc=q ((l.drop j).foldl g acc)/\P ((l.drop j).foldl g acc)
 | 0,j,n,acc,hj,hn,hP=>by
  cases n with
  | zero=>omega
  | succ n =>
   have:j=l.length:=by omega
   subst this
   rw [hq,List.drop_length]; exact ⟨rfl,hP⟩
 | r+1,j,n,acc,hj,hn,hP=>by
  cases n with
  | zero=>omega
  | succ n =>
   obtain ⟨h1,h2⟩:=hs n j acc (by omega) (by omega) hP
   rw [h1,bH (by omega),cK d (by omega:j<l.length),List.foldl_cons]
   exact qH d P hl hs hq r (j+1) n _ (by omega) (by omega) h2
def jj (bl:List Int) (bb:List Bool):List Bool:=bl.foldl (fun bb p=>bb.set (p-1).toNat false) bb
theorem Pc {n:Nat} (hn:bn<=n) (bl:List Int) (hl:bl.length<=cL) (hb:∀ p∈bl,1<=p/\p<=16) (bb:List Bool) (Za:bb.length=16) (q:List Bool->Option R) :
  gH bl q n 0 bb=q (jj bl bb)/\(jj bl bb).length=16:=by
 have xi:bl.length<=2097152:=hl
 have:=qH (R:=R) (L:=gH bl q) (l:=bl) 0 (fun bb=>bb.length=16) (g:=fun bb p=>bb.set (p-1).toNat false) (q:=q) (B:=0) (by omega)
  (fun m i acc _ hi ha=>by
   have hp:=hb _ (aY 0 hi)
   simp only [gH,br,aJ,hi,zV,bf,zE,zC]
   rw [bR (by omega) (by omega),ai (bB hp.1 (by omega))]
   exact ⟨rfl,List.length_set.trans ha⟩)
  (fun m acc=>by simp [gH]) bl.length 0 n bb (by omega) (aP hn (by omega)) Za
 rw [List.drop_zero] at this
 exact this
def oG (bl:List Int) (m:Mem) (x:bE):Mem:=bif (x.Kind==4)&&has bl x.Block then ix x.Ino (aQ m x.Id) else m
def sm (d:bE) (m:Mem):Mem:=⟨⟨⟨jj d.ab m.aa.aq.ab,m.aa.aq.bD.set (d.Ino-1).toNat false⟩,m.aa.ad,m.aa.ab⟩,bP 0 m.ak,m.ae,m.Next⟩
def sP (d:bE) (m:Mem):Mem:=(aQ m d.Id).ae.foldl (oG d.ab) (sm d (aQ m d.Id))
theorem yB {n:Nat} (hn:bn<=n) {m:Mem} (h:cC m) {i:Int} (h1:1<=i) (h2:i<=8) (k:Mem->Option R):mf n i m k=k (ix i m):=by
 refine A4 hn m h.EZ i h1 (by rw [h.d.di]; exact h2) ?_ (by rw [h.d.th h1 h2]; decide) k
 have:=h.d.sK h1 h2
 simp only [bx,zB] at this
 exact this.2.1
theorem dm {m:Mem} {d:bE} (h:bO m d=true):1<=d.Ino/\d.Ino<=8:=by
 simp only [bO,zB,aj] at h
 exact h.2.2.1
theorem Hd {n:Nat} (hn:bn<=n) (d:bE) (m:Mem) (h:cC m) (hi:1<=d.Ino/\d.Ino<=8) (hb:∀ p∈d.ab,1<=p/\p<=16) (Zo:d.ab.length<=cL) (k:Mem->Option R) :
  rj n d m k=k (sP d m)/\cC (sP d m):=by
 have Nc:100000000<=n:=hn
 have h1:=h.drop d.Id
 have Wm:=h1.dp
 simp only [rj]
 rw [lM hn m h.EZ]
 obtain ⟨e3,l3⟩:=Pc (R:=R) hn d.ab Zo hb (aQ m d.Id).aa.aq.ab h1.d.bb (fun bb =>
  aK (bc (aC (d.Ino-1)) (aQ m d.Id).aa.aq.bD.length) <|
  bX 0 ⟨⟨⟨bb,(aQ m d.Id).aa.aq.bD.set ((aC (d.Ino-1)).toNat) false⟩,(aQ m d.Id).aa.ad,(aQ m d.Id).aa.ab⟩,(aQ m d.Id).ak,(aQ m d.Id).ae,(aQ m d.Id).Next⟩ fun mo =>
  eU n (aQ m d.Id).ae d.ab (fun next Qs bi di db bG deps =>
   k ⟨⟨⟨Qs,bi⟩,di,db⟩,bG,deps,next⟩) n 0 mo.Next bb ((aQ m d.Id).aa.aq.bD.set ((aC (d.Ino-1)).toNat) false) (aQ m d.Id).aa.ad (aQ m d.Id).aa.ab mo.ak (aQ m d.Id).ae)
 have h2:cC (sm d (aQ m d.Id)):=(h1.xZ (h1.d.tP (bb:=jj d.ab (aQ m d.Id).aa.aq.ab) (bi:=(aQ m d.Id).aa.aq.bD.set (d.Ino-1).toNat false) l3 (List.length_set.trans h1.d.bi))).mark 0
 have loop:=qH (R:=R) (S:=Mem) (L:=fun mm i acc=>eU n (aQ m d.Id).ae d.ab (fun next Qs bi di db bG deps=>k ⟨⟨⟨Qs,bi⟩,di,db⟩,bG,deps,next⟩) mm i acc.Next acc.aa.aq.ab acc.aa.aq.bD acc.aa.ad acc.aa.ab acc.ak acc.ae)
  (l:=(aQ m d.Id).ae) aH cC (g:=oG d.ab) (q:=k) (B:=0) (by omega)
  (fun mm i acc _ fM ha=>by
   have hx:=dm (h1.num _ (aY aH fM))
   simp only [eU,br,aJ,fM,zV,bf,zE,zC,Bool.or_true,xR hn d.ab Zo,oG]
   cases hk:((aQ m d.Id).ae.getD i aH).Kind==4 with
   | false=>exact ⟨rfl,ha⟩
   | true =>
    cases hh:has d.ab ((aQ m d.Id).ae.getD i aH).Block with
    | false=>exact ⟨rfl,ha⟩
    | true =>
     have hd:=ha.drop ((aQ m d.Id).ae.getD i aH).Id
     simp only [zE,Bool.and_true]
     refine ⟨?_,hd.ix hx.1 hx.2⟩
     refine (lM hn acc ha.EZ _ _).trans ?_
     exact yB hn hd hx.1 hx.2 _)
  (fun mm acc=>by simp [eU]) (aQ m d.Id).ae.length 0 n (sm d (aQ m d.Id)) (by omega) (by omega) h2
 rw [List.drop_zero] at loop
 refine ⟨?_,loop.2⟩
 refine e3.trans ?_
 rw [bR (by omega) (by omega),ai (bB hi.1 (by rw [h1.d.bi]; exact hi.2)),dj,jP]
 exact loop.1
def iA (u:Int) (o:Mem) (d:bE):Mem :=
 bif (d.Kind==6)&&(aM d.Ino==u) then aQ o d.Id else
 bif (d.Kind==5)&&(aM d.Ino==u) then sP d o else
 bif (d.Kind==3)&&(aE d.Block==u) then shown d.Id 0 o else
 bif ((d.Kind==4)&&(d.bz==0))&&(aE d.Block==u) then ix d.Ino (aQ o d.Id) else o
def clean (u:Int) (m:Mem):Mem:=⟨m.aa,m.ak.set u.toNat false,m.ae,m.Next⟩
def done (m:Mem) (u:Int):Mem:=bif gL m&&within u 0 20 then ready (m.ae.foldl (iA u) (flag u (clean u m))) else m
theorem kK (u:Int) (d:bE):(mF u (mI u d)).Id=d.Id/\(mF u (mI u d)).Kind=d.Kind/\(mF u (mI u d)).Ino=d.Ino/\(mF u (mI u d)).Ptr=d.Ptr/\(mF u (mI u d)).Block=d.Block/\(mF u (mI u d)).Slot=d.Slot/\(mF u (mI u d)).Name=d.Name/\(mF u (mI u d)).bz=d.bz/\(mF u (mI u d)).ab=d.ab:=by
 simp only [mI,mF]
 cases (u==0)&&((d.Kind==1)||(d.Kind==2))<;>simp only [zE,zF] <;>
  cases ((d.Kind==2)&&(aM d.Ino==u))||((d.Kind==1)&&(aE d.Block==u))<;>simp
theorem E1 {m m':Mem} {d d':bE} (hn:m'.Next=m.Next) (h1:d'.Id=d.Id) (h2:d'.Kind=d.Kind) (h3:d'.Ino=d.Ino) (h4:d'.Ptr=d.Ptr) (h5:d'.Block=d.Block) (h6:d'.Slot=d.Slot) (h7:d'.bz=d.bz):bO m' d'=bO m d:=by
 simp only [bO,hn,h1,h2,h3,h4,h5,h6,h7]
theorem cC.flag {m:Mem} (h:cC m) (u:Int):cC (Soft.flag u m):=by
 refine ⟨h.d,h.dy,?_,h.n1,h.n2,?_,?_,?_⟩
 ·simp only [Soft.flag,List.length_map]; exact h.dp
 ·intro x hx
  simp only [Soft.flag,List.mem_map] at hx
  obtain ⟨d,hd,rfl⟩:=hx
  obtain ⟨a1,a2,a3,a4,a5,a6,a7,a8,a9⟩:=kK u d
  exact (E1 (m:=m) rfl a1 a2 a3 a4 a5 a6 a8).trans (h.num d hd)
 ·intro x hx
  simp only [Soft.flag,List.mem_map] at hx
  obtain ⟨d,hd,rfl⟩:=hx
  obtain ⟨a1,a2,a3,a4,a5,a6,a7,a8,a9⟩:=kK u d
  rw [a9]; exact h.bs d hd
 ·intro x hx
  simp only [Soft.flag,List.mem_map] at hx
  obtain ⟨d,hd,rfl⟩:=hx
  obtain ⟨a1,a2,a3,a4,a5,a6,a7,a8,a9⟩:=kK u d
  simp only [rL,a7,a9]; exact h.sz d hd
theorem Jh {m m':Mem} (hn:m'.Next=m.Next) (l:List bE) {d:bE} (h:bO m d=true):bO m' (jm l d)=true:=by
 simp only [jm]
 cases ((d.Kind==1)&&d.aq)&&d.et with
 | true =>
  simp only [bO,zB,aj,zE,hn] at h ⊢
  exact ⟨h.1,by omega,h.2.2⟩
 | false =>
  cases (((d.Kind==2)&&d.aq)&&d.et)&&(!pending l d.Block) with
  | true =>
   simp only [bO,zB,aj,zE,zF,hn] at h ⊢
   exact ⟨h.1,by omega,h.2.2⟩
  | false=>rw [← h]; simp only [zF,bO,hn]
theorem sW (l:List bE) (d:bE):(jm l d).Id=d.Id/\(jm l d).Ino=d.Ino/\(jm l d).Ptr=d.Ptr/\(jm l d).Block=d.Block/\(jm l d).Slot=d.Slot/\(jm l d).Name=d.Name/\(jm l d).bz=d.bz/\(jm l d).ab=d.ab:=by
 simp only [jm]
 cases ((d.Kind==1)&&d.aq)&&d.et<;>simp only [zE,zF] <;>
  cases (((d.Kind==2)&&d.aq)&&d.et)&&(!pending l d.Block)<;>simp
theorem vp (l:List bE):∀ (s:List bE) (y:List Bool),(s.foldl (xT l) y).length=y.length
 | [],y=>rfl
 | d::s,y=>by
  rw [List.foldl_cons,vp l s]
  simp only [xT]
  cases ((d.Kind==1)&&d.aq)&&d.et<;>simp only [zE,zF,cJ]
  cases (((d.Kind==2)&&d.aq)&&d.et)&&(!pending l d.Block)<;>simp only [zE,zF,cJ]
theorem cC.ready {m:Mem} (h:cC m):cC (Soft.ready m):=by
 refine ⟨h.d,(vp _ _ _).trans h.dy,?_,h.n1,h.n2,?_,?_,?_⟩
 ·simp only [Soft.ready,List.length_map]; exact h.dp
 ·intro x hx
  simp only [Soft.ready,List.mem_map] at hx
  obtain ⟨d,hd,rfl⟩:=hx
  exact Jh rfl _ (h.num d hd)
 ·intro x hx
  simp only [Soft.ready,List.mem_map] at hx
  obtain ⟨d,hd,rfl⟩:=hx
  rw [(sW _ d).2.2.2.2.2.2.2]; exact h.bs d hd
 ·intro x hx
  simp only [Soft.ready,List.mem_map] at hx
  obtain ⟨d,hd,rfl⟩:=hx
  have:=sW m.ae d
  simp only [rL,this.2.2.2.2.2.1,this.2.2.2.2.2.2.2]; exact h.sz d hd
theorem cC.clean {m:Mem} (h:cC m) (u:Int):cC (Soft.clean u m):=h.bG (List.length_set.trans h.dy)
theorem Kq {n:Nat} (hn:bn<=n) (m:Mem) (hm:eK m) (u:Int) (k:Mem->Option R) :
  ED n m u k=k (done m u)/\(done m u=m\/(gL m=true/\cC (done m u))):=by
 have Nc:100000000<=n:=hn
 simp only [ED,done,iZ]
 rw [dZ hn m hm,ov hn m hm]
 cases xt:gL m with
 | false=>exact ⟨rfl,.inl rfl⟩
 | true =>
 cases hw:within u 0 20 with
 | false=>exact ⟨rfl,.inl rfl⟩
 | true =>
 have hT:=(nG.1 xt).t hm
 have Wm:=hT.dp
 rw [aj] at hw
 simp only [zM,zN,zE,zF,Bool.or_false,Bool.and_true]
 rw [ai (by simp only [bc,zB,zD]; have:=hT.dy; omega),Ir hn u ⟨m.aa,m.ak.set u.toNat false,m.ae,m.Next⟩ hm.dp]
 have h2:cC (flag u (clean u m)):=(hT.clean u).flag u
 have loop:=qH (R:=R) (S:=Mem) (L:=fun mm i acc=>iT n u m.ae (fun v eR dE fV jc lK gY=>l9 n ⟨⟨⟨eR,dE⟩,fV,jc⟩,lK,gY,v⟩ fun ko=>k ko) mm i acc.Next acc.aa.aq.ab acc.aa.aq.bD acc.aa.ad acc.aa.ab acc.ak acc.ae)
  (l:=m.ae) aH cC (g:=iA u) (q:=fun o=>l9 n o k) (B:=0) (by omega)
  (fun mm i acc _ fM ha=>by
   have eF:=aY aH fM
   have hx:=dm (hT.num _ eF)
   have QE:=hT.bs _ eF
   have mi:=hT.sz _ eF
   generalize MX:m.ae.getD i aH=el at hx QE mi
   simp only [iT,br,aJ,fM,zV,bf,zE,zC,gi,ea,iA,MX]
   have e6:((el.Kind==6)&&((bif el.Kind==6 then aM el.Ino else 0)==u))=((el.Kind==6)&&(aM el.Ino==u)):=by cases el.Kind==6<;>rfl
   have e5:((el.Kind==5)&&((bif el.Kind==5 then aM el.Ino else 0)==u))=((el.Kind==5)&&(aM el.Ino==u)):=by cases el.Kind==5<;>rfl
   have e3:((el.Kind==3)&&((bif el.Kind==3 then aE el.Block else 0)==u))=((el.Kind==3)&&(aE el.Block==u)):=by cases el.Kind==3<;>rfl
   have e4:(((el.Kind==4)&&(el.bz==0))&&((bif (el.Kind==4)&&(el.bz==0) then aE el.Block else 0)==u))=(((el.Kind==4)&&(el.bz==0))&&(aE el.Block==u)):=by cases (el.Kind==4)&&(el.bz==0)<;>rfl
   rw [e6,e5,e3,e4]
   cases h6:(el.Kind==6)&&(aM el.Ino==u) with
   | true=>simp only [zE]; exact ⟨lM hn acc ha.EZ _ _,ha.drop _⟩
   | false =>
   simp only [zF]
   cases h5:(el.Kind==5)&&(aM el.Ino==u) with
   | true =>
    have:=fun k=>Hd (R:=R) hn el acc ha hx (fun p hp=>aj.1 (List.all_eq_true.1 QE p hp)) mi.2 k
    simp only [zE]
    exact ⟨(this _).1,(this fun _=>none).2⟩
   | false =>
   simp only [zF]
   cases h3:(el.Kind==3)&&(aE el.Block==u) with
   | true=>simp only [zE]; exact ⟨yx hn acc ha.EZ _ _ _,ha.shown _ _ (Int.le_refl 0) (by have:=ha.n1; omega)⟩
   | false =>
   simp only [zF]
   cases h4:((el.Kind==4)&&(el.bz==0))&&(aE el.Block==u) with
   | true =>
    have hd:=ha.drop el.Id
    simp only [zE]
    refine ⟨?_,hd.ix hx.1 hx.2⟩
    refine (lM hn acc ha.EZ _ _).trans ?_
    exact yB hn hd hx.1 hx.2 _
   | false=>exact ⟨rfl,ha⟩)
  (fun mm acc=>by simp [iT]) m.ae.length 0 n (flag u (clean u m)) (by omega) (by omega) h2
 rw [List.drop_zero] at loop
 refine ⟨?_,.inr ⟨trivial,loop.2.ready⟩⟩
 refine loop.1.trans ?_
 exact Hn hn _ (Nat.le_trans loop.2.dp (by decide)) k
def cU (m:Mem) (i:Int):Mem:=⟨aR m.aa i ⟨(ah m.aa i).Kind,(ah m.aa i).Links+1,(ah m.aa i).ax⟩,bP (aM i) m.ak,m.ae,m.Next⟩
def E9 (m:Mem) (f:Int×Int×Int) (t:Mem×Int):Mem×Int:=bif t.2==0 then (m,4) else (eD t.1 f.1 f.2.1 t.2,0)
def xY (m:Mem) (f:Int×Int×Int) (w:Int) (to name q:ByteArray):Mem×Int :=
 bif (f.2.2==0)||(w==0) then (m,1) else
 bif (!((ah m.aa f.2.2).Kind==1))||(!((ah m.aa w).Kind==2)) then (m,3) else
 bif !(aD m.aa q==0) then (m,2) else
 bif waits m w name||deep m to then (m,5) else
 bif !room m then (m,4) else
 bif decide (200<=(ah m.aa f.2.2).Links) then (m,5) else
 E9 m f (dL (cU m f.2.2) w name f.2.2)
def ju (m:Mem) (p q:ByteArray):Mem×Int :=
 bif ((!gL m)||(!(ao p).2.2))||(!(ao q).2.2) then (m,6) else
 xY m (find m.aa (aD m.aa (ao p).1) (ao p).2.1) (aD m.aa (ao q).1) (ao q).1 (ao q).2.1 q
def dq (f:Fs) (u:Int):Fs×Bool :=
 bif (!Lb f)||(!(fa f.Mem u).2) then (f,false) else
 bif !(ga f.Device u (fa f.Mem u).1).2 then (f,false) else (⟨done f.Mem u,(ga f.Device u (fa f.Mem u).1).1⟩,true)
end Go.Soft
namespace Go.Soft
open Go
def I8 (i:Int):Prop:=1<=i/\i<=8
def lF (p:Int):Prop:=1<=p/\p<=16
def aW (d:aa) (i:Int) (k:Nat):Int:=(ah d i).ax.getD k 0
def aU (d:aa) (i:Int):Int:=(ah d i).Kind
def gK (d:aa) (i:Int):Int:=(ah d i).Links
def cB (d:aa) (p:Int) (s:Nat):Slot:=(aO d p).an.getD s au
def BI (d:aa) (p:Int):Bool:=d.aq.ab.getD (p-1).toNat false
def Cr (d:aa) (i:Int):Bool:=d.aq.bD.getD (i-1).toNat false
def mV (d:aa) (p:Int):Prop:=∃ i k,I8 i/\aU d i=2/\aW d i k=p
def qO (d:aa) (p:Int):Bool:=d.ad.any fun x=>x.Kind==2&&has x.ax p
def vY (b:Block) (j:Int):Nat:=b.an.countP (·.Ino==j)
def j5 (d:aa) (j p:Int):Nat:=bif qO d p then vY (aO d p) j else 0
def k9 (d:aa) (j:Int):Nat:=((List.range' 1 16).map fun q:Nat=>j5 d j q).sum
def gm (l:List bE) (j:Int):Nat:=l.countP fun d=>d.Kind==4&&d.Ino==j
theorem cF {α:Type} (l:List α) (i j:Nat) (x d:α):(l.set i x).getD j d=if j=i/\i<l.length then x else l.getD j d:=by
 simp only [zT,List.getElem?_set]
 by_cases h:i=j
 ·subst h
  by_cases h2:i<l.length
  ·simp [h2]
  ·simp [h2]
 ·simp [h,Ne.symm h]
theorem nB {d:aa} (h:d.ad.length=8) {i j:Int} (hi:I8 i) (hj:I8 j) (x:aX):ah (aR d i x) j=if j=i then x else ah d j:=by
 simp only [ah,aR,cF,h]
 obtain ⟨a,b⟩:=hi; obtain ⟨a',b'⟩:=hj
 by_cases hh:j=i
 ·subst hh; simp; omega
 ·rw [if_neg (by omega),if_neg hh]
theorem il {d:aa} (h:d.ab.length=16) {p q:Int} (hp:lF p) (hq:lF q) (b:Block):aO (b9 d p b) q=if q=p then b else aO d q:=by
 simp only [aO,b9,cF,h]
 obtain ⟨a,b⟩:=hp; obtain ⟨a',b'⟩:=hq
 by_cases hh:q=p
 ·subst hh; simp; omega
 ·rw [if_neg (by omega),if_neg hh]
theorem D9 {l:List Int} {x:Int}:has l x=true↔x∈l:=by simp [has]
theorem mM {l:List Int} {x:Int} (hx:x≠0):x∈l↔∃ k,l.getD k 0=x:=by
 constructor
 ·intro h
  obtain ⟨k,hk,rfl⟩:=List.mem_iff_getElem.1 h
  exact ⟨k,fh _ _ hk⟩
 ·rintro ⟨k,rfl⟩
  by_cases hk:k<l.length
  ·exact aY 0 hk
  ·exact absurd (by simp [zT,List.getElem?_eq_none (Nat.le_of_not_lt hk)]) hx
theorem I8.mem {d:aa} (h:d.ad.length=8) {x:aX}:x∈d.ad↔∃ i,I8 i/\ah d i=x:=by
 constructor
 ·intro hx
  obtain ⟨k,hk,rfl⟩:=List.mem_iff_getElem.1 hx
  refine ⟨(k:Int)+1,⟨by omega,by omega⟩,?_⟩
  simp only [ah]
  rw [show ((k:Int)+1-1).toNat=k by omega]
  exact fh _ _ hk
 ·rintro ⟨i,⟨a,b⟩,rfl⟩
  exact aY _ (by omega)
theorem jL {d:aa} (h:d.ad.length=8) {p:Int} (hp:p≠0):qO d p=true↔mV d p:=by
 simp only [qO,List.any_eq_true,zB,beq_iff_eq,D9,mV]
 constructor
 ·rintro ⟨x,hx,hk,hm⟩
  obtain ⟨i,hi,rfl⟩:=(I8.mem h).1 hx
  obtain ⟨k,uA⟩:=(mM hp).1 hm
  exact ⟨i,k,hi,hk,uA⟩
 ·rintro ⟨i,k,hi,hk,hm⟩
  exact ⟨_,(I8.mem h).2 ⟨i,hi,rfl⟩,hk,(mM hp).2 ⟨k,hm⟩⟩
theorem Ds {l:List Nat} {f g:Nat->Nat} (h:∀ q∈l,f q=g q):(l.map f).sum=(l.map g).sum:=by rw [List.map_congr_left h]
theorem KC {f g:Nat->Nat} {p:Nat}:∀ {l:List Nat},l.Nodup->p∈l->(∀ q∈l,q≠p->f q=g q)->(l.map f).sum+g p=(l.map g).sum+f p
 | [],_,hp,_=>by cases hp
 | x::l,hn,hp,h=>by
  simp only [List.map_cons,List.sum_cons]
  obtain ⟨h1,h2⟩:=List.nodup_cons.1 hn
  by_cases hx:x=p
  ·subst hx
   have:(l.map f).sum=(l.map g).sum:=Ds fun q hq=>h q (zJ _ hq) (by rintro rfl; exact h1 hq)
   omega
  ·have yp:p∈l:=by
    cases hp with
    | head=>exact absurd rfl hx
    | tail _ h=>exact h
   have:=KC h2 yp fun q hq=>h q (zJ _ hq)
   have:=h x zO hx
   omega
theorem nT {d d':aa} {j:Int} (h:∀ p,lF p->j5 d' j p=j5 d j p):k9 d' j=k9 d j :=
 Ds fun q hq=>h q (by simp [List.mem_range'] at hq; exact ⟨by omega,by omega⟩)
theorem Q0 {d d':aa} {j p:Int} (hp:lF p) (h:∀ q,lF q->q≠p->j5 d' j q=j5 d j q):k9 d' j+j5 d j p=k9 d j+j5 d' j p:=by
 obtain ⟨p1,p2⟩:=hp
 have:=KC (f:=fun q:Nat=>j5 d' j q) (g:=fun q:Nat=>j5 d j q) (p:=p.toNat) (l:=List.range' 1 16) List.nodup_range' (by rw [List.mem_range'_1]; omega)
  (fun q hq cR=>h q (by simp [List.mem_range'] at hq; exact ⟨by omega,by omega⟩) (by omega))
 simp only [Int.toNat_of_nonneg (show 0<=p by omega)] at this
 exact this
theorem Ga {f:Nat->Nat}:∀ {l:List Nat},(l.map f).sum=0↔∀ q∈l,f q=0
 | []=>by simp
 | x::l=>by simp [Ga (l:=l)]
theorem qW {b:Block} {j:Int}:vY b j=0↔∀ s∈b.an,s.Ino≠j:=by simp [vY]
theorem O9 {d:aa} {j:Int}:k9 d j=0↔∀ p,lF p->qO d p=true->∀ s∈(aO d p).an,s.Ino≠j:=by
 simp only [k9,Ga]
 constructor
 ·intro h p hp ho
  have:=h p.toNat (by rw [List.mem_range'_1]; obtain ⟨a,b⟩:=hp; omega)
  rw [Int.toNat_of_nonneg (by obtain ⟨a,b⟩:=hp; omega)] at this
  simp only [j5,ho,zE] at this
  exact qW.1 this
 ·intro h q hq
  have hq':lF (q:Int):=by simp [List.mem_range'] at hq; exact ⟨by omega,by omega⟩
  simp only [j5]
  cases ho:qO d q with
  | false=>rfl
  | true=>exact qW.2 (h q hq' ho)
theorem countP_set {α:Type} (P:α->Bool) (x d:α):∀ (l:List α) (i:Nat),i<l.length->(l.set i x).countP P+(bif P (l.getD i d) then 1 else 0)=l.countP P+(bif P x then 1 else 0)
 | [],i,h=>by simp at h
 | y::l,0,h=>by
  simp only [List.set_cons_zero,List.countP_cons,List.getD_cons_zero]
  cases P x<;>cases P y<;>simp
 | y::l,i+1,h=>by
  have:=countP_set P x d l i (by simpa using h)
  simp only [List.set_cons_succ,List.countP_cons,List.getD_cons_succ]
  omega
theorem Li {b:Block} {s:Nat} (hs:s<b.an.length) (x:Slot) (j:Int):vY (fb b s x) j+(if (b.an.getD s au).Ino=j then 1 else 0)=vY b j+(if x.Ino=j then 1 else 0):=by
 have:=countP_set (fun s:Slot=>s.Ino==j) x au b.an s hs
 simp only [vY,fb]
 have e:∀ y:Slot,(bif y.Ino==j then 1 else 0)=(if y.Ino=j then 1 else 0):=fun y=>by
  by_cases h:y.Ino=j
  ·simp [h]
  ·rw [beq_eq_false_iff_ne.2 h]; simp [h]
 rw [e,e] at this
 exact this
structure DG (d:aa):Prop where
 one:∀ i k j l,I8 i->I8 j->aW d i k=aW d j l->aW d i k≠0->i=j/\k=l
 bm:∀ i k,I8 i->aW d i k≠0->BI d (aW d i k)=true
 Na:∀ i,I8 i->aU d i≠0->Cr d i=true
 pk:∀ i k,I8 i->aW d i k≠0->((aO d (aW d i k)).cp=true↔aU d i=2)
 nm:∀ p s,lF p->mV d p->(cB d p s).Ino≠0->aU d (cB d p s).Ino≠0/\(cB d p s).Ino≠1
 ne:∀ i k s,I8 i->i≠1->aU d i=2->k9 d i=0->aW d i k≠0->(cB d (aW d i k) s).Ino=0
 dl:∀ j,I8 j->aU d j=2->gK d j=1
 rt:aU d 1=2
 un:∀ i k l s t,I8 i->aU d i=2->aW d i k≠0->aW d i l≠0->(cB d (aW d i k) s).Ino≠0->(cB d (aW d i k) s).Name=(cB d (aW d i l) t).Name->k=l/\s=t
 rk:∃ r:Int->Nat,r 1=0/\∀ i k s,I8 i->aU d i=2->aW d i k≠0->(cB d (aW d i k) s).Ino≠0->aU d (cB d (aW d i k) s).Ino=2->r (cB d (aW d i k) s).Ino=r i+1/\r i<4
structure Gd (e:Int) (X:List Int) (m:Mem):Prop where
 R:fC m
 sz:∀ d∈m.ae,rL d
 g:DG m.aa
 fr:∀ d∈m.ae,d.Kind=5->aU m.aa d.Ino=0/\Cr m.aa d.Ino=true/\d.ab.Nodup/\∀ p∈d.ab,BI m.aa p=true/\∀ i k,I8 i->aW m.aa i k≠p
 Ei:m.ae.Pairwise fun a b=>a.Kind=5->b.Kind=5->a.Ino≠b.Ino/\∀ p∈a.ab,p∉b.ab
 lk:∀ j,I8 j->j≠1->aU m.aa j≠0->gK m.aa j=(k9 m.aa j:Int)+gm m.ae j+(if e=j then 1 else 0)
 Cg:∀ j,I8 j->aU m.aa j=0->gm m.ae j=0/\e≠j
 rt:gm m.ae 1=0/\e≠1
 nd:∀ d∈m.ae,d.Kind=2\/d.Kind=3->mV m.aa d.Block
 rd:∀ d∈m.ae,d.Kind=4->cB m.aa d.Block d.Slot.toNat=au/\(mV m.aa d.Block\/d.Block∈X\/∃ f∈m.ae,f.Kind=5/\d.Block∈f.ab)
 us:m.ae.Pairwise fun a b=>iC a=true->iC b=true->a.Block=b.Block->a.Slot≠b.Slot
 af:∀ d∈m.ae,d.Kind=4->d.bz≠0->∃ x∈m.ae,x.Id=d.bz/\(x.Kind=2\/x.Kind=3)/\x.Ino=d.Ino
theorem Gd.T {e:Int} {X:List Int} {m:Mem} (h:Gd e X m):cC m :=
 h.R.t ⟨h.R.d.t.sz,by rw [h.R.dy]; decide,Nat.le_trans h.R.dp (by decide),h.sz⟩
theorem Gd.bG {e:Int} {X:List Int} {m:Mem} (h:Gd e X m) {y:List Bool} (hy:y.length=21):Gd e X ⟨m.aa,y,m.ae,m.Next⟩ :=
 ⟨h.R.bG hy,h.sz,h.g,h.fr,h.Ei,h.lk,h.Cg,h.rt,h.nd,h.rd,h.us,h.af⟩
theorem cE.ptr {d:aa} (h:cE d) {i:Int} (hi:I8 i) (k:Nat):(k<=1/\lF (aW d i k))\/aW d i k=0:=by
 have h1:=h.sK hi.1 hi.2
 by_cases hk:k<(ah d i).ax.length
 ·have h2:=jf h1
  simp only [bx,zB,List.all_eq_true] at h1
  have:=(h1.2.2.2.1 _ (aY 0 hk)).1
  rw [aj] at this
  by_cases h0:aW d i k=0
  ·exact .inr h0
  ·exact .inl ⟨by omega,by simp only [aW] at h0 ⊢; constructor<;>omega⟩
 ·exact .inr (by simp [aW,zT,List.getElem?_eq_none (Nat.le_of_not_lt hk)])
theorem cE.slot {d:aa} (h:cE d) {p:Int} (hp:lF p) (s:Nat):cB d p s=au\/(s<=3/\(aO d p).cp=true/\pd (cB d p s)=true):=by
 have h1:=h.n9 hp.1 hp.2
 by_cases hs:s<(aO d p).an.length
 ·cases hd:(aO d p).cp with
  | false=>simp only [fY,hd,zF,zB,beq_iff_eq] at h1; omega
  | true=>exact .inr ⟨by have:=dg h1 hd; omega,rfl,sV h1 hd (aY au hs)⟩
 ·exact .inl (by simp [cB,zT,List.getElem?_eq_none (Nat.le_of_not_lt hs)])
theorem LD {s:Slot} (h:pd s=true):s=⟨eS,0⟩\/(bN s.Name=true/\I8 s.Ino):=by
 obtain ⟨n,i⟩:=s
 simp only [pd,Bool.or_eq_true,zB,beq_iff_eq,aj] at h
 rcases h with ⟨rfl,rfl⟩ | ⟨a,b⟩
 ·exact .inl rfl
 ·exact .inr ⟨a,b⟩
theorem GM:au=⟨eS,0⟩:=rfl
theorem cE.yQ {d:aa} (h:cE d) {p:Int} (hp:lF p) (s:Nat):cB d p s=au\/(s<=3/\(aO d p).cp=true/\bN (cB d p s).Name=true/\I8 (cB d p s).Ino):=by
 rcases h.slot hp s with h | ⟨h1,h2,h3⟩
 ·exact .inl h
 ·rcases LD h3 with h | ⟨a,b⟩
  ·exact .inl h
  ·exact .inr ⟨h1,h2,a,b⟩
theorem n5 {d d':aa} (hk:∀ i,I8 i->aU d' i=aU d i) (hp:∀ i k,I8 i->aW d' i k=aW d i k) (p:Int):mV d' p↔mV d p:=by
 constructor
 ·rintro ⟨i,k,hi,h1,h2⟩; exact ⟨i,k,hi,by rw [← hk i hi]; exact h1,by rw [← hp i k hi]; exact h2⟩
 ·rintro ⟨i,k,hi,h1,h2⟩; exact ⟨i,k,hi,by rw [hk i hi]; exact h1,by rw [hp i k hi]; exact h2⟩
theorem xO {d d':aa} (h8:d.ad.length=8) (Yb:d'.ad.length=8) {p:Int} (hp:p≠0) (h:mV d' p↔mV d p):qO d' p=qO d p:=by
 rw [Bool.eq_iff_iff,jL h8 hp,jL Yb hp,h]
theorem vG {d d':aa} (hb:d'.ab=d.ab) (p:Int):aO d' p=aO d p:=by simp only [aO,hb]
theorem OB {d d':aa} (hb:d'.ab=d.ab) (p:Int) (s:Nat):cB d' p s=cB d p s:=by simp only [cB,vG hb]
theorem ot {d d':aa} (h8:d.ad.length=8) (Yb:d'.ad.length=8) (hk:∀ i,I8 i->aU d' i=aU d i) (hp:∀ i k,I8 i->aW d' i k=aW d i k) (hb:d'.ab=d.ab) (j:Int):k9 d' j=k9 d j :=
 nT fun p yp=>by
  simp only [j5,vG hb]
  rw [xO h8 Yb (by obtain ⟨a,b⟩:=yp; omega) (n5 hk hp p)]
theorem DG.same {d d':aa} (T:cE d) (g:DG d) (h8:d'.ad.length=8) (hb:d'.ab=d.ab) (hk:∀ i,I8 i->aU d' i=aU d i) (hp:∀ i k,I8 i->aW d' i k=aW d i k)
  (hl:∀ i,I8 i->aU d i=2->gK d' i=gK d i) (hm:∀ i k,I8 i->aW d i k≠0->BI d' (aW d i k)=true) (hi:∀ i,I8 i->aU d i≠0->Cr d' i=true):DG d':=by
 have ho:=n5 hk hp
 have hs:=OB hb
 have hc:=ot T.di h8 hk hp hb
 have hB:∀ i k,I8 i->aW d i k≠0->lF (aW d i k):=fun i k hi h0=>((T.ptr hi k).resolve_right h0).2
 have hI:∀ p s,lF p->(cB d p s).Ino≠0->I8 (cB d p s).Ino:=fun p s hp h0=>by
  rcases T.yQ hp s with h | h
  ·rw [h] at h0; exact absurd rfl h0
  ·exact h.2.2.2
 refine ⟨?_,?_,?_,?_,?_,?_,?_,?_,?_,?_⟩
 ·intro i k j l hi hj; rw [hp i k hi,hp j l hj]; exact g.one i k j l hi hj
 ·intro i k hi; rw [hp i k hi]; exact hm i k hi
 ·intro i h1; rw [hk i h1]; exact hi i h1
 ·intro i k h1; rw [hp i k h1,hk i h1,vG hb]; exact g.pk i k h1
 ·intro p s h1 h2 h3; rw [hs] at h3 ⊢; rw [ho] at h2; rw [hk _ (hI p s h1 h3)]; exact g.nm p s h1 h2 h3
 ·intro i k s h1 h2 h3 h4 h5; rw [hp i k h1] at h5 ⊢; rw [hs]; rw [hk i h1] at h3; rw [hc] at h4; exact g.ne i k s h1 h2 h3 h4 h5
 ·intro j h1 h2; rw [hk j h1] at h2; rw [hl j h1 h2]; exact g.dl j h1 h2
 ·rw [hk 1 ⟨by omega,by omega⟩]; exact g.rt
 ·intro i k l s t h1 h2 h3 h4; rw [hp i k h1] at h3 ⊢; rw [hp i l h1] at h4 ⊢; rw [hk i h1] at h2; rw [hs,hs]; exact g.un i k l s t h1 h2 h3 h4
 ·obtain ⟨r,r1,r2⟩:=g.rk
  refine ⟨r,r1,fun i k s h1 h2 h3 h4 h5=> ?_⟩
  rw [hp i k h1] at h3 h4 h5 ⊢; rw [hs] at h4 h5 ⊢; rw [hk i h1] at h2; rw [hk _ (hI _ s (hB i k h1 h3) h4)] at h5
  exact r2 i k s h1 h2 h3 h4 h5
end Go.Soft
namespace Go.Soft
open Go
variable {e:Int} {X:List Int} {m:Mem}
theorem ph {l:List bE} {P:bE->Bool} (h:∀ d∈l,d.Kind=4->P d=true) (j:Int):gm (l.filter P) j=gm l j:=by
 simp only [gm,List.countP_filter]
 apply List.countP_congr
 intro d hd
 constructor
 ·intro h1; simp only [zB] at h1 ⊢; exact h1.1
 ·intro h1
  have h2:d.Kind=4:=by simp only [zB,beq_iff_eq] at h1; exact h1.1
  simp only [zB] at h1 ⊢
  exact ⟨h1,h d hd h2⟩
theorem Gd.sub (h:Gd e X m) {P:bE->Bool} (hP:∀ d∈m.ae,d.Kind≠1->d.Kind≠6->P d=true):Gd e X ⟨m.aa,m.ak,m.ae.filter P,m.Next⟩:=by
 have hs:=List.filter_sublist (p:=P) (l:=m.ae)
 have hr:=ph (l:=m.ae) (P:=P) fun d hd h4=>hP d hd (by omega) (by omega)
 refine ⟨h.R.less hs,fun d hd=>h.sz d (hs.subset hd),h.g,fun d hd=>h.fr d (hs.subset hd),h.Ei.sublist hs,?_,?_,?_,fun d hd=>h.nd d (hs.subset hd),?_,h.us.sublist hs,?_⟩
 ·intro j; rw [hr]; exact h.lk j
 ·intro j; rw [hr]; exact h.Cg j
 ·rw [hr]; exact h.rt
 ·intro d hd h4
  obtain ⟨a,b⟩:=h.rd d (hs.subset hd) h4
  refine ⟨a,?_⟩
  rcases b with b | b | ⟨f,hf,Cm,FH⟩
  ·exact .inl b
  ·exact .inr (.inl b)
  ·exact .inr (.inr ⟨f,List.mem_filter.2 ⟨hf,hP f hf (by omega) (by omega)⟩,Cm,FH⟩)
 ·intro d hd h4 h0
  obtain ⟨x,hx,a,b,c⟩:=h.af d (hs.subset hd) h4 h0
  exact ⟨x,List.mem_filter.2 ⟨hx,hP x hx (by omega) (by omega)⟩,a,b,c⟩
theorem pQ {l:List bE} (hp:l.Pairwise fun a b=>¬ a.Id=b.Id):∀ {a b:bE},a∈l->b∈l->a.Id=b.Id->a=b:=by
 induction l with
 | nil=>intro a b ha; cases ha
 | cons x l ih =>
  rw [List.pairwise_cons] at hp
  intro a b ha hb he
  rcases zI.1 ha with h1 | h1<;>rcases zI.1 hb with h2 | h2
  ·rw [h1,h2]
  ·rw [h1] at he; exact absurd he (hp.1 b h2)
  ·rw [h2] at he; exact absurd he.symm (hp.1 a h1)
  ·exact ih hp.2 h1 h2 he
theorem qG {l:List bE} (hp:l.Pairwise fun a b=>¬ a.Id=b.Id) {d:bE} (hd:d∈l) (P:bE->Bool):(l.filter fun x=> !(x.Id==d.Id)).countP P+(bif P d then 1 else 0)=l.countP P:=by
 induction l with
 | nil=>cases hd
 | cons x l ih =>
  rw [List.pairwise_cons] at hp
  rcases zI.1 hd with rfl | Ca
  ·have:l.filter (fun y=> !(y.Id==d.Id))=l:=List.filter_eq_self.2 fun y hy=>by
    have:=hp.1 y hy
    simp; exact fun h=>this h.symm
   simp only [List.filter_cons,beq_self_eq_true,zM,Bool.false_eq_true,if_false,this,List.countP_cons]
   cases P d<;>rfl
  ·have cR:(x.Id==d.Id)=false:=by simpa using hp.1 d Ca
   have:=ih hp.2 Ca
   simp only [List.filter_cons,cR,zN,if_true,List.countP_cons]
   omega
theorem dH {l:List bE} {x:bE} {id:Int}:x∈l.filter (fun x=> !(x.Id==id))↔x∈l/\x.Id≠id:=by simp [List.mem_filter]
theorem Gd.Sn (h:Gd 0 X m) {d:bE} (hd:d∈m.ae) (h4:d.Kind=4):Gd d.Ino X (aQ m d.Id):=by
 have hs:=List.filter_sublist (p:=fun x:bE=> !(x.Id==d.Id)) (l:=m.ae)
 have hI:=dm (h.R.num d hd)
 have hr:∀ j,gm (m.ae.filter fun x=> !(x.Id==d.Id)) j+(if d.Ino=j then 1 else 0)=gm m.ae j:=fun j=>by
  have:=qG h.R.ids hd (fun x=>x.Kind==4&&x.Ino==j)
  refine Eq.trans ?_ this
  show gm _ j+_=gm _ j+_
  congr 1
  by_cases hj:d.Ino=j
  ·simp [h4,hj]
  ·rw [if_neg hj,beq_eq_false_iff_ne.2 hj,Bool.and_false]; rfl
 have hk:aU m.aa d.Ino≠0:=fun h0=>by
  have:=(h.Cg d.Ino hI h0).1
  have h2:=hr d.Ino
  simp at h2; omega
 have h1:d.Ino≠1:=fun h0=>by
  have:=h.rt.1
  have h2:=hr d.Ino
  rw [h0] at h2; simp at h2; omega
 refine ⟨h.R.drop d.Id,fun d hd=>h.sz d (hs.subset hd),h.g,fun d hd=>h.fr d (hs.subset hd),h.Ei.sublist hs,?_,?_,?_,fun d hd=>h.nd d (hs.subset hd),?_,h.us.sublist hs,?_⟩
 ·intro j hj z6 lz
  have e1:=h.lk j hj z6 lz
  have e2:=hr j
  obtain ⟨a,b⟩:=hj
  rw [if_neg (by omega)] at e1
  show gK m.aa j=(k9 m.aa j:Int)+(gm (m.ae.filter fun x=> !(x.Id==d.Id)) j:Nat)+_
  rw [e1,← e2]
  split<;>simp<;>omega
 ·intro j hj lz
  have e1:=(h.Cg j hj lz).1
  have e2:=hr j
  refine ⟨?_,fun hh=>hk (hh▸lz)⟩
  show gm (m.ae.filter fun x=> !(x.Id==d.Id)) j=0
  omega
 ·have e1:=h.rt.1
  have e2:=hr 1
  refine ⟨?_,h1⟩
  show gm (m.ae.filter fun x=> !(x.Id==d.Id)) 1=0
  omega
 ·intro x hx hx4
  obtain ⟨a,b⟩:=h.rd x (hs.subset hx) hx4
  refine ⟨a,?_⟩
  rcases b with b | b | ⟨f,hf,Cm,FH⟩
  ·exact .inl b
  ·exact .inr (.inl b)
  ·exact .inr (.inr ⟨f,dH.2 ⟨hf,fun hh=>by have:=pQ h.R.ids hf hd hh; subst this; omega⟩,Cm,FH⟩)
 ·intro x hx hx4 h0
  obtain ⟨y,hy,a,b,c⟩:=h.af x (hs.subset hx) hx4 h0
  exact ⟨y,dH.2 ⟨hy,fun hh=>by have:=pQ h.R.ids hy hd hh; subst this; omega⟩,a,b,c⟩
structure CN (f:bE->bE):Prop where
 same:∀ d,(f d).Id=d.Id/\(f d).Ino=d.Ino/\(f d).Ptr=d.Ptr/\(f d).Block=d.Block/\(f d).Slot=d.Slot/\(f d).Name=d.Name/\(f d).bz=d.bz/\(f d).ab=d.ab
 kind:∀ d,(f d).Kind=d.Kind\/(d.Kind=1/\(f d).Kind=6)\/(d.Kind=2/\(f d).Kind=3)
theorem CN.OL {f:bE->bE} (h:CN f) (d:bE):((f d).Kind=4↔d.Kind=4)/\((f d).Kind=5↔d.Kind=5)/\(((f d).Kind=2\/(f d).Kind=3)↔(d.Kind=2\/d.Kind=3))/\(((f d).Kind=1\/(f d).Kind=6)↔(d.Kind=1\/d.Kind=6)):=by
 rcases h.kind d with h | h | h<;>(refine ⟨?_,?_,?_,?_⟩<;>constructor<;>intro<;>omega)
theorem fQ {d:bE}:iC d=true↔d.Kind=2\/d.Kind=3\/d.Kind=4:=by
 simp only [iC,Bool.or_eq_true,beq_iff_eq,or_assoc]
theorem CN.nm {f:bE->bE} (h:CN f) (d:bE):iC (f d)=true↔iC d=true:=by
 rw [fQ,fQ]
 rcases h.kind d with h | h | h<;>constructor<;>intro<;>omega
theorem fC.QZ {f:bE->bE} (ht:CN f) (h:fC m):fC ⟨m.aa,m.ak,m.ae.map f,m.Next⟩:=by
 refine ⟨h.d,h.dy,by simpa using h.dp,h.n1,h.n2,?_,?_,?_,?_⟩
 ·intro x hx
  obtain ⟨d,hd,rfl⟩:=List.mem_map.1 hx
  have h1:=h.num d hd
  obtain ⟨a1,a2,a3,a4,a5,a6,a7,a8⟩:=ht.same d
  simp only [bO,zB,aj,a1,a2,a3,a4,a5,a7] at h1 ⊢
  have:=ht.kind d
  refine ⟨h1.1,by omega,h1.2.2⟩
 ·intro x hx
  obtain ⟨d,hd,rfl⟩:=List.mem_map.1 hx
  rw [(ht.same d).2.2.2.2.2.2.2]; exact h.bs d hd
 ·intro x hx
  obtain ⟨d,hd,rfl⟩:=List.mem_map.1 hx
  have h1:=h.xQ d hd
  obtain ⟨a1,a2,a3,a4,a5,a6,a7,a8⟩:=ht.same d
  obtain ⟨k4,k5,k2,k1⟩:=ht.OL d
  have e1:(((f d).Kind==1)||((f d).Kind==6))=((d.Kind==1)||(d.Kind==6)):=by rw [Bool.eq_iff_iff]; simpa using k1
  have e2:(((f d).Kind==2)||((f d).Kind==3))=((d.Kind==2)||(d.Kind==3)):=by rw [Bool.eq_iff_iff]; simpa using k2
  have e4:((f d).Kind==4)=(d.Kind==4):=by rw [Bool.eq_iff_iff]; simpa using k4
  simp only [c9,e1,e2,e4,a2,a3,a4,a5,a6] at h1 ⊢
  exact h1
 ·rw [List.pairwise_map]
  exact h.ids.imp fun {a b} tt=>by rw [(ht.same a).1,(ht.same b).1]; exact tt
theorem Lf {f:bE->bE} (ht:CN f) (l:List bE) (j:Int):gm (l.map f) j=gm l j:=by
 simp only [gm,List.countP_map]
 apply List.countP_congr
 intro d _
 have:=(ht.OL d).1
 simp [this,(ht.same d).2.1]
theorem Gd.QZ {f:bE->bE} (ht:CN f) (h:Gd e X m):Gd e X ⟨m.aa,m.ak,m.ae.map f,m.Next⟩:=by
 have hr:=Lf ht m.ae
 refine ⟨h.R.QZ ht,?_,h.g,?_,?_,?_,?_,?_,?_,?_,?_,?_⟩
 ·intro x hx
  obtain ⟨d,hd,rfl⟩:=List.mem_map.1 hx
  obtain ⟨a1,a2,a3,a4,a5,a6,a7,a8⟩:=ht.same d
  simp only [rL,a6,a8]; exact h.sz d hd
 ·intro x hx h5
  obtain ⟨d,hd,rfl⟩:=List.mem_map.1 hx
  obtain ⟨a1,a2,a3,a4,a5,a6,a7,a8⟩:=ht.same d
  rw [a2,a8]; exact h.fr d hd ((ht.OL d).2.1.1 h5)
 ·rw [List.pairwise_map]
  exact h.Ei.imp fun {a b} tt ha hb=>by
   rw [(ht.same a).2.1,(ht.same b).2.1,(ht.same a).2.2.2.2.2.2.2,(ht.same b).2.2.2.2.2.2.2]
   exact tt ((ht.OL a).2.1.1 ha) ((ht.OL b).2.1.1 hb)
 ·intro j; rw [hr]; exact h.lk j
 ·intro j; rw [hr]; exact h.Cg j
 ·rw [hr]; exact h.rt
 ·intro x hx h2
  obtain ⟨d,hd,rfl⟩:=List.mem_map.1 hx
  rw [(ht.same d).2.2.2.1]; exact h.nd d hd ((ht.OL d).2.2.1.1 h2)
 ·intro x hx h4
  obtain ⟨d,hd,rfl⟩:=List.mem_map.1 hx
  rw [(ht.same d).2.2.2.1,(ht.same d).2.2.2.2.1]
  obtain ⟨a,b⟩:=h.rd d hd ((ht.OL d).1.1 h4)
  refine ⟨a,?_⟩
  rcases b with b | b | ⟨f',hf,Cm,FH⟩
  ·exact .inl b
  ·exact .inr (.inl b)
  ·exact .inr (.inr ⟨f f',List.mem_map_of_mem hf,(ht.OL f').2.1.2 Cm,by rw [(ht.same f').2.2.2.2.2.2.2]; exact FH⟩)
 ·rw [List.pairwise_map]
  exact h.us.imp fun {a b} tt ha hb=>by
   rw [(ht.same a).2.2.2.1,(ht.same b).2.2.2.1,(ht.same a).2.2.2.2.1,(ht.same b).2.2.2.2.1]
   exact tt ((ht.nm a).1 ha) ((ht.nm b).1 hb)
 ·intro x hx h4 h0
  obtain ⟨d,hd,rfl⟩:=List.mem_map.1 hx
  rw [(ht.same d).2.2.2.2.2.2.1] at h0 ⊢
  rw [(ht.same d).2.1]
  obtain ⟨y,hy,a,b,c⟩:=h.af d hd ((ht.OL d).1.1 h4) h0
  exact ⟨f y,List.mem_map_of_mem hy,by rw [(ht.same y).1]; exact a,(ht.OL y).2.2.1.2 b,by rw [(ht.same y).2.1]; exact c⟩
end Go.Soft
namespace Go.Soft
open Go
variable {e:Int} {X:List Int} {m:Mem} {d:aa}
theorem dB (h:d.ad.length=8) {i j:Int} (hi:I8 i) (hj:I8 j) (x:aX):aU (aR d i x) j=if j=i then x.Kind else aU d j:=by
 simp only [aU,nB h hi hj]; split<;>rfl
theorem gg (h:d.ad.length=8) {i j:Int} (hi:I8 i) (hj:I8 j) (x:aX):gK (aR d i x) j=if j=i then x.Links else gK d j:=by
 simp only [gK,nB h hi hj]; split<;>rfl
theorem eV (h:d.ad.length=8) {i j:Int} (hi:I8 i) (hj:I8 j) (x:aX) (k:Nat):aW (aR d i x) j k=if j=i then x.ax.getD k 0 else aW d j k:=by
 simp only [aW,nB h hi hj]; split<;>rfl
theorem cE.gV (T:cE d) {i:Int} {k:Nat} (hi:I8 i) (h:aW d i k≠0):lF (aW d i k):=((T.ptr hi k).resolve_right h).2
theorem cE.Cq (T:cE d) {p:Int} {s:Nat} (hp:lF p) (h:(cB d p s).Ino≠0):I8 (cB d p s).Ino:=by
 rcases T.yQ hp s with h1 | h1
 ·rw [h1] at h; exact absurd rfl h
 ·exact h1.2.2.2
theorem cE.Tg (T:cE d) {p:Int} (hp:lF p) {x:Slot} (hx:x∈(aO d p).an):∃ s,s<=3/\cB d p s=x:=by
 obtain ⟨s,hs,rfl⟩:=List.mem_iff_getElem.1 hx
 have h1:=T.n9 hp.1 hp.2
 refine ⟨s,?_,fh _ _ hs⟩
 cases hd:(aO d p).cp with
 | false=>simp only [fY,hd,zF,zB,beq_iff_eq] at h1; omega
 | true=>have:=dg h1 hd; omega
theorem cE.FL (T:cE d) {j:Int} (hj:j≠0):k9 d j=0↔∀ p s,lF p->mV d p->(cB d p s).Ino≠j:=by
 rw [O9]
 constructor
 ·intro h p s hp ho he
  rcases T.yQ hp s with h1 | h1
  ·rw [h1] at he; exact hj he.symm
  ·refine h p hp ((jL T.di (by obtain ⟨a,b⟩:=hp; omega)).2 ho) _ ?_ he
   refine aY _ ?_
   have:=dg (T.n9 hp.1 hp.2) h1.2.1
   omega
 ·intro h p hp ho x hx
  obtain ⟨s,_,rfl⟩:=T.Tg hp hx
  exact h p s hp ((jL T.di (by obtain ⟨a,b⟩:=hp; omega)).1 ho)
theorem AW (T:cE d) {i:Int} (hi:I8 i) (p:Int):(mV (aR d i (ba 0)) p->mV d p)/\(mV d p->mV (aR d i (ba 0)) p\/∃ k,aU d i=2/\aW d i k=p):=by
 constructor
 ·rintro ⟨j,k,hj,h1,h2⟩
  rw [dB T.di hi hj] at h1; rw [eV T.di hi hj] at h2
  by_cases h:j=i
  ·rw [if_pos h] at h1; exact absurd h1 (by decide)
  ·rw [if_neg h] at h1 h2; exact ⟨j,k,hj,h1,h2⟩
 ·rintro ⟨j,k,hj,h1,h2⟩
  by_cases h:j=i
  ·subst h; exact .inr ⟨k,h1,h2⟩
  ·refine .inl ⟨j,k,hj,?_,?_⟩
   ·rw [dB T.di hi hj,if_neg h]; exact h1
   ·rw [eV T.di hi hj,if_neg h]; exact h2
theorem GU (T:cE d) {i j:Int} (hi:I8 i) (hj:I8 j) (k:Nat):aW (aR d i (ba 0)) j k=if j=i then 0 else aW d j k:=by
 rw [eV T.di hi hj]
 split
 ·match k with
  | 0=>rfl
  | 1=>rfl
  | k+2=>rfl
 ·rfl
theorem G6 (T:cE d) {i:Int} (hi:I8 i) (he:∀ k s,aU d i=2->aW d i k≠0->(cB d (aW d i k) s).Ino=0) {j:Int} (hj:j≠0):k9 (aR d i (ba 0)) j=k9 d j:=by
 refine nT fun p hp=> ?_
 have lJ:p≠0:=by obtain ⟨a,b⟩:=hp; omega
 obtain ⟨h1,h2⟩:=AW T hi p
 have hl:(aR d i (ba 0)).ad.length=8:=List.length_set.trans T.di
 simp only [j5]
 rw [show aO (aR d i (ba 0)) p=aO d p from rfl]
 cases hb:qO d p with
 | false =>
  have:qO (aR d i (ba 0)) p=false:=by
   rw [← Bool.not_eq_true,jL hl lJ]; intro h; have:=(jL T.di lJ).2 (h1 h); rw [hb] at this; cases this
  rw [this]
 | true =>
  rcases h2 ((jL T.di lJ).1 hb) with h | ⟨k,hk,rfl⟩
  ·rw [(jL hl lJ).2 h]
  ·cases qO (aR d i (ba 0)) (aW d i k) with
   | true=>rfl
   | false =>
    simp only [zE,zF]
    refine (qW.2 fun x hx=> ?_).symm
    obtain ⟨s,_,rfl⟩:=T.Tg hp hx
    rw [he k s hk lJ]; exact hj.symm
theorem DG.dead (T:cE d) (g:DG d) {i:Int} (hi:I8 i) (h1:i≠1) (hc:k9 d i=0):DG (aR d i (ba 0)):=by
 have Jy:i≠0:=by obtain ⟨a,b⟩:=hi; omega
 have he:∀ k s,aU d i=2->aW d i k≠0->(cB d (aW d i k) s).Ino=0:=fun k s hk=>g.ne i k s hi h1 hk hc
 have CQ:=fun {j}=>G6 T hi he (j:=j)
 have hk:=fun {j} (hj:I8 j)=>dB T.di hi hj (ba 0)
 have hl:=fun {j} (hj:I8 j)=>gg T.di hi hj (ba 0)
 have hp:=fun {j} (hj:I8 j)=>GU T hi hj
 have ho:=AW T hi
 have hs:∀ p s,cB (aR d i (ba 0)) p s=cB d p s:=fun _ _=>rfl
 have c0:=(T.FL Jy).1 hc
 refine ⟨?_,?_,?_,?_,?_,?_,?_,?_,?_,?_⟩
 ·intro a k b l ha hb; rw [hp ha,hp hb]
  split
  ·intro _ h; exact absurd rfl h
  ·split
   ·intro h h'; exact absurd h h'
   ·exact g.one a k b l ha hb
 ·intro a k ha; rw [hp ha]; split
  ·intro h; exact absurd rfl h
  ·exact g.bm a k ha
 ·intro a ha; rw [hk ha]; split
  ·intro h; exact absurd rfl h
  ·exact g.Na a ha
 ·intro a k ha; rw [hp ha,hk ha]; split
  ·intro h; exact absurd rfl h
  ·exact g.pk a k ha
 ·intro p s hB hO h; rw [hs] at h ⊢
  have h2:=(ho p).1 hO
  rw [hk (T.Cq hB h),if_neg (c0 p s hB h2)]
  exact g.nm p s hB h2 h
 ·intro a k s ha VH pG QP; rw [hk ha] at pG; rw [hp ha]
  by_cases h:a=i
  ·rw [if_pos h] at pG; exact absurd pG (by decide)
  ·rw [if_neg h] at pG ⊢; rw [CQ (by obtain ⟨x,y⟩:=ha; omega)] at QP
   exact g.ne a k s ha VH pG QP
 ·intro j hj lz; rw [hk hj] at lz; rw [hl hj]
  by_cases h:j=i
  ·rw [if_pos h] at lz; exact absurd lz (by decide)
  ·rw [if_neg h] at lz ⊢; exact g.dl j hj lz
 ·rw [hk ⟨by decide,by decide⟩,if_neg (Ne.symm h1)]; exact g.rt
 ·intro a k l s t ha pG; rw [hk ha] at pG; rw [hp ha,hp ha]
  by_cases h:a=i
  ·rw [if_pos h] at pG; exact absurd pG (by decide)
  ·rw [if_neg h] at pG; rw [if_neg h,if_neg h]; exact g.un a k l s t ha pG
 ·obtain ⟨r,r1,r2⟩:=g.rk
  refine ⟨r,r1,fun a k s ha pG=> ?_⟩
  rw [hk ha] at pG; rw [hp ha]
  by_cases h:a=i
  ·rw [if_pos h] at pG; exact absurd pG (by decide)
  ·rw [if_neg h] at pG; rw [if_neg h]
   intro h0 h3 h4
   rw [hs] at h3 h4 ⊢
   rw [hk (T.Cq (T.gV ha h0) h3),if_neg (c0 _ s (T.gV ha h0) ⟨a,k,ha,pG,rfl⟩)] at h4
   exact r2 a k s ha pG h0 h3 h4
theorem cV:fq m=true↔m.ae.length<40/\1<=m.Next/\m.Next<=99999:=by
 simp only [fq,zB,zD,aj]
theorem kL (h:fq m=true) (x:bE):dz m x=(⟨m.aa,m.ak,m.ae++[{ x with Id:=m.Next }],m.Next+1⟩,m.Next):=by
 simp only [dz,h,zE]
theorem I6 (hp:fq m=true) {i:Int} (hk:aU m.aa i≠0) (hl:0<gK m.aa i) :
  ix i m=if 1<gK m.aa i then ⟨aR m.aa i ⟨aU m.aa i,gK m.aa i-1,(ah m.aa i).ax⟩,bP (aM i) m.ak,m.ae,m.Next⟩ else
   ⟨aR m.aa i (ba 0),bP (aM i) m.ak,m.ae.filter (stays i)++[⟨m.Next,5,i,0,0,0,eS,false,false,0,(ah m.aa i).ax.filter fun p=>decide (0<p)⟩],m.Next+1⟩:=by
 obtain ⟨a1,a2,a3⟩:=cV.1 hp
 have hf:gz (ah m.aa i)=⟨aU m.aa i,gK m.aa i-1,(ah m.aa i).ax⟩:=by
  simp only [gz]; rw [decide_eq_true (show 0<(ah m.aa i).Links from hl)]; rfl
 have h1:(decide (40<=(m.ae.length:Int))|| !within m.Next 1 99999)=false:=by
  rw [aj.2 ⟨a2,a3⟩,decide_eq_false (by omega)]; rfl
 simp only [ix,h1,zF,hf]
 have h2:(aU m.aa i==0)=false:=by simpa using hk
 rw [h2,Bool.or_false]
 by_cases h:1<gK m.aa i
 ·rw [if_pos h,decide_eq_true (by omega)]; rfl
 ·rw [if_neg h,decide_eq_false (by omega)]
  simp only [zF]
  rw [kL]
  rw [cV]
  exact ⟨Nat.lt_of_le_of_lt (List.length_filter_le _ _) a1,a2,a3⟩
theorem Gd.ix {i:Int} (h:Gd i X m) (hi:I8 i) (hp:fq m=true):Gd 0 X (Soft.ix i m):=by
 have T:=h.R.d.t
 have zh:i≠1:=h.rt.2
 have hk:aU m.aa i≠0:=fun h0=>(h.Cg i hi h0).2 rfl
 have hl:=h.lk i hi zh hk
 rw [if_pos rfl] at hl
 have hR:=h.R.ix hi.1 hi.2
 have KX:=I6 hp hk (by omega)
 have Jy:¬ (0:Int)=i:=by obtain ⟨a,b⟩:=hi; omega
 by_cases hL:1<gK m.aa i
 ·rw [if_pos hL] at KX
  rw [KX] at hR ⊢
  have iY:∀ j,I8 j->aU (aR m.aa i ⟨aU m.aa i,gK m.aa i-1,(ah m.aa i).ax⟩) j=aU m.aa j:=fun j hj=>by
   rw [dB T.di hi hj]; split
   ·next hh=>rw [hh]
   ·rfl
  have nf:∀ j k,I8 j->aW (aR m.aa i ⟨aU m.aa i,gK m.aa i-1,(ah m.aa i).ax⟩) j k=aW m.aa j k:=fun j k hj=>by
   rw [eV T.di hi hj]; split
   ·next hh=>rw [hh]; rfl
   ·rfl
  have h8:(aR m.aa i ⟨aU m.aa i,gK m.aa i-1,(ah m.aa i).ax⟩).ad.length=8:=List.length_set.trans T.di
  have hO:=n5 iY nf
  have hc:=ot T.di h8 iY nf rfl
  refine ⟨hR,h.sz,DG.same T h.g h8 rfl iY nf ?_ (fun a k ha h0=>h.g.bm a k ha h0) (fun a ha h0=>h.g.Na a ha h0),?_,h.Ei,?_,?_,⟨h.rt.1,by decide⟩,?_,?_,h.us,h.af⟩
  ·intro j hj h2
   rw [gg T.di hi hj]
   split
   ·next hh=>subst hh; have:=h.g.dl j hj h2; omega
   ·rfl
  ·intro x hx h5
   obtain ⟨a1,a2,a3,a4⟩:=h.fr x hx h5
   refine ⟨(iY _ (dm (h.R.num x hx))).trans a1,a2,a3,fun p hp=>⟨(a4 p hp).1,fun j k hj=>by rw [nf j k hj]; exact (a4 p hp).2 j k hj⟩⟩
  ·intro j hj z6 lz
   rw [iY j hj] at lz
   rw [hc,gg T.di hi hj,if_neg (show ¬ (0:Int)=j by obtain ⟨a,b⟩:=hj; omega)]
   have:=h.lk j hj z6 lz
   by_cases hh:j=i
   ·rw [if_pos hh]; rw [if_pos hh.symm] at this; subst hh
    show gK m.aa j-1=(k9 m.aa j:Int)+(gm m.ae j:Nat)+0
    omega
   ·rw [if_neg hh]; rw [if_neg (fun q=>hh q.symm)] at this; exact this
  ·intro j hj lz
   rw [iY j hj] at lz
   exact ⟨(h.Cg j hj lz).1,by obtain ⟨a,b⟩:=hj; omega⟩
  ·intro x hx h2; rw [hO]; exact h.nd x hx h2
  ·intro x hx h4
   obtain ⟨a,b⟩:=h.rd x hx h4
   exact ⟨a,b.imp_left (hO _).2⟩
 ·rw [if_neg hL] at KX
  rw [KX] at hR ⊢
  have hc:k9 m.aa i=0:=by omega
  have hr:gm m.ae i=0:=by omega
  have ab3:i≠0:=fun hh=>Jy hh.symm
  have c0:=(T.FL ab3).1 hc
  have he:∀ k s,aU m.aa i=2->aW m.aa i k≠0->(cB m.aa (aW m.aa i k) s).Ino=0:=fun k s hk=>h.g.ne i k s hi zh hk hc
  have iY:=fun {j} (hj:I8 j)=>dB T.di hi hj (ba 0)
  have Vo:=fun {j} (hj:I8 j)=>gg T.di hi hj (ba 0)
  have nf:=fun {j} (hj:I8 j)=>GU T hi hj
  have hO:=AW T hi
  have CQ:=fun {j}=>G6 T hi he (j:=j)
  have hs:=List.filter_sublist (p:=stays i) (l:=m.ae)
  have pS:∀ x:bE,x.Kind≠1->x.Kind≠6->stays i x=true:=fun x h1 h6=>by
   simp only [stays]; rw [beq_eq_false_iff_ne.2 h1,beq_eq_false_iff_ne.2 h6]; rfl
  have vN:∀ j,gm (m.ae.filter (stays i)++[⟨m.Next,5,i,0,0,0,eS,false,false,0,(ah m.aa i).ax.filter fun p=>decide (0<p)⟩]) j=gm m.ae j:=fun j=>by
   have:=ph (l:=m.ae) (P:=stays i) (fun x hx h4=>pS x (by omega) (by omega)) j
   rw [← this]
   simp [gm,List.countP_append]
  have Hs:(ah m.aa i).ax.length=2:=T.th hi.1 hi.2
  have hpm:∀ p,p∈(ah m.aa i).ax.filter (fun p=>decide (0<p))↔p≠0/\∃ k,aW m.aa i k=p:=fun p=>by
   rw [List.mem_filter,zD]
   constructor
   ·rintro ⟨a,b⟩; exact ⟨by omega,(mM (by omega)).1 a⟩
   ·rintro ⟨a,k,hk⟩
    refine ⟨(mM a).2 ⟨k,hk⟩,?_⟩
    rw [← hk] at a ⊢
    have:=T.gV hi a
    obtain ⟨b,c⟩:=this; omega
  have eF:∀ {x},x∈m.ae.filter (stays i)++[⟨m.Next,5,i,0,0,0,eS,false,false,0,(ah m.aa i).ax.filter fun p=>decide (0<p)⟩]->x∈m.ae\/x=⟨m.Next,5,i,0,0,0,eS,false,false,0,(ah m.aa i).ax.filter fun p=>decide (0<p)⟩:=fun {x} hx=>by
   rcases zH.1 hx with hx | hx
   ·exact .inl (hs.subset hx)
   ·exact .inr (zS.1 hx)
  have TH:∀ {x},x∈m.ae->x.Kind≠1->x.Kind≠6->x∈m.ae.filter (stays i)++[⟨m.Next,5,i,0,0,0,eS,false,false,0,(ah m.aa i).ax.filter fun p=>decide (0<p)⟩]:=fun {x} hx h1 h6 =>
   List.mem_append_left _ (List.mem_filter.2 ⟨hx,pS x h1 h6⟩)
  refine ⟨hR,?_,h.g.dead T hi zh hc,?_,?_,?_,?_,?_,?_,?_,?_,?_⟩
  ·intro x hx
   rcases eF hx with hx | rfl
   ·exact h.sz x hx
   ·exact ⟨by show eS.size<=cL; decide,by show List.length _<=cL; exact Nat.le_trans (List.length_filter_le _ _) (by rw [Hs]; decide)⟩
  ·intro x hx h5
   rcases eF hx with hx | rfl
   ·obtain ⟨a1,a2,a3,a4⟩:=h.fr x hx h5
    refine ⟨?_,a2,a3,fun p hp=>⟨(a4 p hp).1,fun j k hj=> ?_⟩⟩
    ·show aU (aR m.aa i (ba 0)) x.Ino=0
     rw [iY (dm (h.R.num x hx))]; split
     ·rfl
     ·exact a1
    ·show aW (aR m.aa i (ba 0)) j k≠p
     rw [nf hj]; split
     ·intro hh
      have:=aj.1 (List.all_eq_true.1 (h.R.bs x hx) p hp)
      omega
     ·exact (a4 p hp).2 j k hj
   ·refine ⟨?_,h.g.Na i hi hk,?_,fun p hp=> ?_⟩
    ·show aU (aR m.aa i (ba 0)) i=0
     rw [iY hi,if_pos rfl]; rfl
    ·show ((ah m.aa i).ax.filter fun p=>decide (0<p)).Nodup
     have h1:=h.g.one i 0 i 1 hi hi
     simp only [aW] at h1
     match hP:(ah m.aa i).ax,Hs with
     | [a,b],_ =>
      rw [hP] at h1
      simp only [List.getD_cons_zero,List.getD_cons_succ] at h1
      simp only [List.filter_cons,List.filter_nil]
      by_cases ha:0<a<;>by_cases hb:0<b<;>simp [ha,hb]
      intro tt
      have:=(h1 tt (by omega)).2
      omega
    ·obtain ⟨h0,k,uA⟩:=(hpm p).1 hp
     refine ⟨?_,fun j l hj=> ?_⟩
     ·have:=h.g.bm i k hi (by rw [uA]; exact h0)
      rw [uA] at this; exact this
     ·show aW (aR m.aa i (ba 0)) j l≠p
      rw [nf hj]; split
      ·exact fun hh=>h0 hh.symm
      ·next Y8=>intro hh; exact Y8 (h.g.one j l i k hj hi (hh.trans uA.symm) (by rw [hh]; exact h0)).1
  ·rw [List.pairwise_append]
   refine ⟨h.Ei.sublist hs,List.pairwise_singleton _ _,?_⟩
   intro a ha b hb h5 _
   rw [zS] at hb; subst hb
   obtain ⟨a1,a2,a3,a4⟩:=h.fr a (hs.subset ha) h5
   refine ⟨fun hh=>hk (by rw [← show a.Ino=i from hh]; exact a1),fun p hp hq=> ?_⟩
   obtain ⟨h0,k,uA⟩:=(hpm p).1 hq
   exact (a4 p hp).2 i k hi uA
  ·intro j hj z6 lz
   rw [iY hj] at lz
   by_cases hh:j=i
   ·rw [if_pos hh] at lz; exact absurd rfl lz
   ·rw [if_neg hh] at lz
    rw [vN,CQ (by obtain ⟨a,b⟩:=hj; omega),Vo hj,if_neg hh,if_neg (show ¬ (0:Int)=j by obtain ⟨a,b⟩:=hj; omega)]
    have:=h.lk j hj z6 lz
    rw [if_neg (fun q=>hh q.symm)] at this; exact this
  ·intro j hj lz
   rw [vN]
   refine ⟨?_,by obtain ⟨a,b⟩:=hj; omega⟩
   rw [iY hj] at lz
   by_cases hh:j=i
   ·rw [hh]; exact hr
   ·rw [if_neg hh] at lz; exact (h.Cg j hj lz).1
  ·rw [vN]; exact ⟨h.rt.1,by decide⟩
  ·intro x hx h2
   rcases eF hx with hx | rfl
   ·rcases (hO x.Block).2 (h.nd x hx h2) with h3 | ⟨k,h3,h4⟩
    ·exact h3
    ·have Fv:=h.R.xQ x hx
     have e2:((x.Kind==2)||(x.Kind==3))=true:=by simpa using h2
     have e1:((x.Kind==1)||(x.Kind==6))=false:=by rw [Bool.or_eq_false_iff]; constructor<;>(rw [beq_eq_false_iff_ne]; omega)
     simp only [c9,e1,e2,zE,zF,zB,zD,beq_iff_eq] at Fv
     have:=he k x.Slot.toNat h3 (by rw [h4]; omega)
     rw [h4] at this
     have h5:(cB m.aa x.Block x.Slot.toNat).Ino=x.Ino:=Fv.2
     have:=dm (h.R.num x hx)
     omega
   ·exact absurd h2 (by show ¬ ((5:Int)=2\/(5:Int)=3); omega)
  ·intro x hx h4
   rcases eF hx with hx | rfl
   ·obtain ⟨a,b⟩:=h.rd x hx h4
    refine ⟨a,?_⟩
    rcases b with b | b | ⟨f,hf,Cm,FH⟩
    ·rcases (hO x.Block).2 b with h3 | ⟨k,h3,h5⟩
     ·exact .inl h3
     ·refine .inr (.inr ⟨_,List.mem_append_right _ (zS.2 rfl),rfl,(hpm _).2 ⟨?_,k,h5⟩⟩)
      have Fv:=h.R.xQ x hx
      simp only [c9,h4] at Fv
      simp at Fv; omega
    ·exact .inr (.inl b)
    ·exact .inr (.inr ⟨f,TH hf (by omega) (by omega),Cm,FH⟩)
   ·exact absurd h4 (by show ¬ (5:Int)=4; decide)
  ·rw [List.pairwise_append]
   refine ⟨h.us.sublist hs,List.pairwise_singleton _ _,?_⟩
   intro a ha b hb _ hn
   rw [zS] at hb; subst hb
   exact absurd hn (by show ¬ iC ⟨m.Next,5,i,0,0,0,eS,false,false,0,_⟩=true; rw [fQ]; simp)
  ·intro x hx h4 h0
   rcases eF hx with hx | rfl
   ·obtain ⟨y,hy,a,b,c⟩:=h.af x hx h4 h0
    exact ⟨y,TH hy (by omega) (by omega),a,b,c⟩
   ·exact absurd h4 (by show ¬ (5:Int)=4; decide)
theorem bj (id b:Int) (d:bE):(eZ id b d).Id=d.Id/\(eZ id b d).Kind=d.Kind/\(eZ id b d).Ino=d.Ino/\(eZ id b d).Ptr=d.Ptr/\(eZ id b d).Block=d.Block/\(eZ id b d).Slot=d.Slot/\(eZ id b d).Name=d.Name/\(eZ id b d).ab=d.ab:=by
 simp only [eZ]; cases (d.Kind==4)&&(d.bz==id)<;>simp
theorem Hq (id b:Int) {d:bE} (h4:d.Kind=4):(eZ id b d).bz=if d.bz=id then b else d.bz:=by
 simp only [eZ,h4]
 by_cases h:d.bz=id
 ·simp [h]
 ·rw [if_neg h,beq_eq_false_iff_ne.2 h]; rfl
theorem fc {id b:Int} {x:bE}:x∈(shown id b m).ae↔∃ y∈m.ae,y.Id≠id/\eZ id b y=x:=by
 simp only [shown,List.mem_map]
 constructor
 ·rintro ⟨y,hy,rfl⟩; exact ⟨y,(dH.1 hy).1,(dH.1 hy).2,rfl⟩
 ·rintro ⟨y,hy,h,rfl⟩; exact ⟨y,dH.2 ⟨hy,h⟩,rfl⟩
theorem Jc {id b:Int} (oV:∀ y∈m.ae,y.Id=id->y.Kind≠4) (j:Int):gm (shown id b m).ae j=gm m.ae j:=by
 have:gm (shown id b m).ae j=gm (aQ m id).ae j:=by
  simp only [shown,gm,List.countP_map]
  apply List.countP_congr
  intro y _
  obtain ⟨_,a2,a3,_⟩:=bj id b y
  simp [a2,a3]
 rw [this]
 exact ph (fun y hy h4=>by simpa using fun hh=>oV y hy hh h4) j
theorem fC.Ue (h:fC m) {id b:Int} (b0:0<=b) (b1:b<=m.Next-1):fC (shown id b m):=by
 refine ⟨h.d,(yf _ _ _ _).trans h.dy,?_,h.n1,h.n2,?_,?_,?_,?_⟩
 ·simp only [shown,List.length_map]; exact Nat.le_trans (List.length_filter_le _ _) h.dp
 ·intro x hx
  obtain ⟨y,hy,_,rfl⟩:=fc.1 hx
  have h1:=h.num y hy
  obtain ⟨a1,a2,a3,a4,a5,a6,a7,a8⟩:=bj id b y
  simp only [bO,zB,aj,a1,a2,a3,a4,a5,a6] at h1 ⊢
  refine ⟨h1.1,h1.2.1,h1.2.2.1,h1.2.2.2.1,h1.2.2.2.2.1,h1.2.2.2.2.2.1,?_⟩
  show 0<=(eZ id b y).bz/\(eZ id b y).bz<=m.Next-1
  have:=h1.2.2.2.2.2.2
  simp only [eZ]
  cases (y.Kind==4)&&(y.bz==id)
  ·exact this
  ·exact ⟨b0,b1⟩
 ·intro x hx
  obtain ⟨y,hy,_,rfl⟩:=fc.1 hx
  rw [(bj id b y).2.2.2.2.2.2.2]; exact h.bs y hy
 ·intro x hx
  obtain ⟨y,hy,_,rfl⟩:=fc.1 hx
  obtain ⟨a1,a2,a3,a4,a5,a6,a7,a8⟩:=bj id b y
  have h1:=h.xQ y hy
  simp only [c9,a2,a3,a4,a5,a6,a7] at h1 ⊢; exact h1
 ·simp only [shown,List.pairwise_map]
  exact (h.ids.sublist List.filter_sublist).imp fun {a b'} tt=>by rw [(bj _ _ a).1,(bj _ _ b').1]; exact tt
theorem Gd.shown (h:Gd e X m) {x0:bE} (Ti:x0∈m.ae) (QH:x0.Kind=2\/x0.Kind=3) {b:Int} (hb:b=0\/∃ x∈m.ae,x.Id=b/\(x.Kind=2\/x.Kind=3)/\x.Ino=x0.Ino/\b≠x0.Id):Gd e X (Soft.shown x0.Id b m):=by
 have oV:∀ {y},y∈m.ae->y.Id=x0.Id->y=x0:=fun hy he=>pQ h.R.ids hy Ti he
 have Wy:0<=b/\b<=m.Next-1:=by
  rcases hb with rfl | ⟨x,hx,rfl,_⟩
  ·exact ⟨by decide,by have:=h.R.n1; omega⟩
  ·have:=h.R.num x hx
   simp only [bO,zB,aj] at this
   exact ⟨by omega,this.1.2⟩
 have hr:=Jc (m:=m) (id:=x0.Id) (b:=b) fun y hy he=>by rw [oV hy he]; omega
 have hs:=List.filter_sublist (p:=fun x:bE=> !(x.Id==x0.Id)) (l:=m.ae)
 refine ⟨h.R.Ue Wy.1 Wy.2,?_,h.g,?_,?_,?_,?_,?_,?_,?_,?_,?_⟩
 ·intro x hx
  obtain ⟨y,hy,_,rfl⟩:=fc.1 hx
  obtain ⟨a1,a2,a3,a4,a5,a6,a7,a8⟩:=bj x0.Id b y
  simp only [rL,a7,a8]; exact h.sz y hy
 ·intro x hx h5
  obtain ⟨y,hy,_,rfl⟩:=fc.1 hx
  obtain ⟨a1,a2,a3,a4,a5,a6,a7,a8⟩:=bj x0.Id b y
  rw [a3,a8]; rw [a2] at h5; exact h.fr y hy h5
 ·simp only [Soft.shown,List.pairwise_map]
  exact (h.Ei.sublist hs).imp fun {a c} tt ha hc=>by
   rw [(bj _ _ a).2.1] at ha; rw [(bj _ _ c).2.1] at hc
   rw [(bj _ _ a).2.2.1,(bj _ _ c).2.2.1,(bj _ _ a).2.2.2.2.2.2.2,(bj _ _ c).2.2.2.2.2.2.2]
   exact tt ha hc
 ·intro j; rw [hr]; exact h.lk j
 ·intro j; rw [hr]; exact h.Cg j
 ·rw [hr]; exact h.rt
 ·intro x hx h2
  obtain ⟨y,hy,_,rfl⟩:=fc.1 hx
  obtain ⟨a1,a2,a3,a4,a5,a6,a7,a8⟩:=bj x0.Id b y
  rw [a5]; rw [a2] at h2; exact h.nd y hy h2
 ·intro x hx h4
  obtain ⟨y,hy,_,rfl⟩:=fc.1 hx
  obtain ⟨a1,a2,a3,a4,a5,a6,a7,a8⟩:=bj x0.Id b y
  rw [a2] at h4; rw [a5,a6]
  obtain ⟨a,c⟩:=h.rd y hy h4
  refine ⟨a,?_⟩
  rcases c with c | c | ⟨f,hf,Cm,FH⟩
  ·exact .inl c
  ·exact .inr (.inl c)
  ·refine .inr (.inr ⟨eZ x0.Id b f,fc.2 ⟨f,hf,fun hh=>by rw [oV hf hh] at Cm; rcases QH with h | h<;>rw [h] at Cm<;>exact absurd Cm (by decide),rfl⟩,?_,?_⟩)
   ·rw [(bj _ _ f).2.1]; exact Cm
   ·rw [(bj _ _ f).2.2.2.2.2.2.2]; exact FH
 ·simp only [Soft.shown,List.pairwise_map]
  exact (h.us.sublist hs).imp fun {a c} tt ha hc=>by
   have n1:iC (eZ x0.Id b a)=iC a:=by simp only [iC,(bj _ _ a).2.1]
   have n2:iC (eZ x0.Id b c)=iC c:=by simp only [iC,(bj _ _ c).2.1]
   rw [n1] at ha; rw [n2] at hc
   rw [(bj _ _ a).2.2.2.2.1,(bj _ _ c).2.2.2.2.1,(bj _ _ a).2.2.2.2.2.1,(bj _ _ c).2.2.2.2.2.1]
   exact tt ha hc
 ·intro x hx h4 h0
  obtain ⟨y,hy,_,rfl⟩:=fc.1 hx
  obtain ⟨a1,a2,a3,a4,a5,a6,a7,a8⟩:=bj x0.Id b y
  rw [a2] at h4
  rw [Hq _ _ h4] at h0 ⊢
  rw [a3]
  by_cases hh:y.bz=x0.Id
  ·rw [if_pos hh] at h0 ⊢
   rcases hb with rfl | ⟨w,hw,VF,hxk,hxi,cR⟩
   ·exact absurd rfl h0
   ·obtain ⟨z,hz,z1,z2,z3⟩:=h.af y hy h4 (by
     rw [hh]
     have:=h.R.num x0 Ti
     simp only [bO,zB,aj] at this
     omega)
    have:z=x0:=oV hz (z1.trans hh)
    subst this
    refine ⟨eZ z.Id b w,fc.2 ⟨w,hw,by rw [VF]; exact cR,rfl⟩,?_,?_,?_⟩
    ·rw [(bj _ _ w).1]; exact VF
    ·rw [(bj _ _ w).2.1]; exact hxk
    ·rw [(bj _ _ w).2.2.1,hxi]; exact z3
  ·rw [if_neg hh] at h0 ⊢
   obtain ⟨z,hz,z1,z2,z3⟩:=h.af y hy h4 h0
   refine ⟨eZ x0.Id b z,fc.2 ⟨z,hz,fun hq=>hh (z1.symm.trans hq),rfl⟩,?_,?_,?_⟩
   ·rw [(bj _ _ z).1]; exact z1
   ·rw [(bj _ _ z).2.1]; exact z2
   ·rw [(bj _ _ z).2.2.1]; exact z3
theorem Gd.T' (h:Gd e X m):cE m.aa:=h.R.d.t
theorem Gd.Un (h:Gd e X m) (hp:fq m=true) (he:e≠0) (hI:I8 e) {p s:Int} {nm:ByteArray} {b:Int} (p1:lF p) (ho:mV m.aa p) (hd:(aO m.aa p).cp=true) (s0:0<=s) (s1:s<=3) (hs:cB m.aa p s.toNat=au) (hn:bN nm=true)
  (hf:∀ x∈m.ae,iC x=true->x.Block=p->x.Slot≠s) (hb:b=0\/∃ x∈m.ae,x.Id=b/\(x.Kind=2\/x.Kind=3)/\x.Ino=e) :
  Gd 0 X (dz m ⟨0,4,e,0,p,s,nm,false,false,b,[]⟩).1:=by
 obtain ⟨a1,a2,a3⟩:=cV.1 hp
 have Wy:0<=b/\b<=m.Next-1:=by
  rcases hb with rfl | ⟨x,hx,rfl,_⟩
  ·exact ⟨by decide,by omega⟩
  ·have:=h.R.num x hx
   simp only [bO,zB,aj] at this
   exact ⟨by omega,this.1.2⟩
 obtain ⟨i1,i2⟩:=hI
 obtain ⟨p1',p2'⟩:=p1
 have hR:=h.R.put ⟨0,4,e,0,p,s,nm,false,false,b,[]⟩ (by
  simp only [bO,zB,aj]
  refine ⟨⟨by omega,by omega⟩,⟨by decide,by decide⟩,⟨i1,i2⟩,⟨by decide,by decide⟩,⟨by omega,p2'⟩,⟨s0,s1⟩,Wy.1,by omega⟩) rfl (by
  simp only [c9]
  simp only [show ((4:Int)==1)=false from rfl,show ((4:Int)==6)=false from rfl,show ((4:Int)==2)=false from rfl,show ((4:Int)==3)=false from rfl,show ((4:Int)==4)=true from rfl,Bool.or_false,zF,zE,hd,hn,Bool.and_true,zD]
  omega)
 rw [kL hp] at hR ⊢
 have eF:∀ {x},x∈m.ae++[(⟨m.Next,4,e,0,p,s,nm,false,false,b,[]⟩:bE)]->x∈m.ae\/x=⟨m.Next,4,e,0,p,s,nm,false,false,b,[]⟩:=fun {x} hx=>by
  rcases zH.1 hx with hx | hx
  ·exact .inl hx
  ·exact .inr (zS.1 hx)
 have vN:∀ j,gm (m.ae++[(⟨m.Next,4,e,0,p,s,nm,false,false,b,[]⟩:bE)]) j=gm m.ae j+(if e=j then 1 else 0):=fun j=>by
  simp only [gm,List.countP_append,List.countP_singleton]
  by_cases hh:e=j
  ·simp [hh]
  ·rw [if_neg hh,beq_eq_false_iff_ne.2 hh]; simp
 refine ⟨hR,?_,h.g,?_,?_,?_,?_,?_,?_,?_,?_,?_⟩
 ·intro x hx
  rcases eF hx with hx | rfl
  ·exact h.sz x hx
  ·exact ⟨Nat.le_trans (eW hn).2 (by decide),by show ([]:List Int).length<=cL; decide⟩
 ·intro x hx h5
  rcases eF hx with hx | rfl
  ·exact h.fr x hx h5
  ·exact absurd h5 (by show ¬ (4:Int)=5; decide)
 ·rw [List.pairwise_append]
  refine ⟨h.Ei,List.pairwise_singleton _ _,?_⟩
  intro a _ c hc _ h5
  rw [zS] at hc; subst hc
  exact absurd h5 (by show ¬ (4:Int)=5; decide)
 ·intro j hj z6 lz
  rw [vN,if_neg (show ¬ (0:Int)=j by obtain ⟨a,b⟩:=hj; omega)]
  have:=h.lk j hj z6 lz
  rw [this]; split<;>simp<;>omega
 ·intro j hj lz
  have:=h.Cg j hj lz
  rw [vN,if_neg this.2]
  exact ⟨this.1,by obtain ⟨a,b⟩:=hj; omega⟩
 ·have:=h.rt
  rw [vN,if_neg this.2]; exact ⟨this.1,by decide⟩
 ·intro x hx h2
  rcases eF hx with hx | rfl
  ·exact h.nd x hx h2
  ·exact ho
 ·intro x hx h4
  rcases eF hx with hx | rfl
  ·obtain ⟨a,c⟩:=h.rd x hx h4
   refine ⟨a,?_⟩
   rcases c with c | c | ⟨f,hf,Cm,FH⟩
   ·exact .inl c
   ·exact .inr (.inl c)
   ·exact .inr (.inr ⟨f,List.mem_append_left _ hf,Cm,FH⟩)
  ·exact ⟨hs,.inl ho⟩
 ·rw [List.pairwise_append]
  refine ⟨h.us,List.pairwise_singleton _ _,?_⟩
  intro a ha c hc h1 _ h3
  rw [zS] at hc; subst hc
  exact hf a ha h1 h3
 ·intro x hx h4 h0
  rcases eF hx with hx | rfl
  ·obtain ⟨y,hy,a,c⟩:=h.af x hx h4 h0
   exact ⟨y,List.mem_append_left _ hy,a,c⟩
  ·rcases hb with rfl | ⟨x,hx,c1,c2,c3⟩
   ·exact absurd rfl h0
   ·exact ⟨x,List.mem_append_left _ hx,c1,c2,c3⟩
theorem JM:eS.size=0:=rfl
theorem gU {s:ByteArray} (h:bN s=true):s≠eS:=fun hh=>by
 have:=(eW h).1
 rw [hh,JM] at this; omega
theorem pE {b:Block} (hd:b.cp=true):bF b=true↔b.an.length=4/\b.Text=eS/\(∀ i,i<4->b.an.getD i au=au\/(bN (b.an.getD i au).Name=true/\I8 (b.an.getD i au).Ino)) /\
  ∀ i k,k<i->i<4->b.an.getD i au≠au->(b.an.getD k au).Name≠(b.an.getD i au).Name:=by
 have hz:∀ x:Slot,(x.Name==eS&&x.Ino==0)=true↔x=au:=fun x=>by
  obtain ⟨n,i⟩:=x
  simp only [zB,beq_iff_eq,GM,Slot.mk.injEq]
 simp only [bF,hd,zE,zB,beq_iff_eq,Ek]
 constructor
 ·rintro ⟨⟨h1,h2⟩,h3⟩
  refine ⟨h1,h2,fun i hi=> ?_,fun i k hk hi cR=> ?_⟩
  ·have:=lO h3 hi
   simp only [wZ,Bool.or_eq_true] at this
   rcases this with h | h
   ·exact .inl ((hz _).1 h)
   ·simp only [zB,aj] at h; exact .inr h.1
  ·have:=lO h3 hi
   simp only [wZ,Bool.or_eq_true] at this
   rcases this with h | h
   ·exact absurd ((hz _).1 h) cR
   ·rw [zB] at h
    have:=lO h.2 hk
    simpa using this
 ·rintro ⟨h1,h2,h3,h4⟩
  refine ⟨⟨h1,h2⟩,List.all_eq_true.2 fun i hi=> ?_⟩
  rw [List.mem_range'_1] at hi
  simp only [wZ,Bool.or_eq_true]
  by_cases h:b.an.getD i au=au
  ·exact .inl ((hz _).2 h)
  ·refine .inr ?_
   rw [zB]
   refine ⟨?_,List.all_eq_true.2 fun k hk=> ?_⟩
   ·simp only [zB,aj]; exact (h3 i (by omega)).resolve_left h
   ·rw [List.mem_range'_1] at hk
    simpa using h4 i k (by omega) (by omega) h
theorem mY {b:Block} (h:bF b=true) (hd:b.cp=true) {s:Nat} (hs:s<=3) {x:Slot} (hx:x=au\/(bN x.Name=true/\I8 x.Ino)) (hu:x≠au->∀ t,t≠s->(b.an.getD t au).Name≠x.Name):bF (fb b s x)=true:=by
 obtain ⟨h1,h2,h3,h4⟩:=(pE hd).1 h
 refine (pE (b:=fb b s x) hd).2 ⟨List.length_set.trans h1,h2,fun i hi=> ?_,fun i k hk hi cR=> ?_⟩
 ·simp only [fb,cF,h1]
  split
  ·exact hx
  ·exact h3 i hi
 ·simp only [fb,cF,h1] at cR ⊢
  by_cases tw:i=s
  ·subst tw
   rw [if_pos (c:=i=i/\i<4) ⟨rfl,by omega⟩] at cR ⊢
   rw [if_neg (c:=k=i/\i<4) (by omega)]
   exact hu cR k (by omega)
  ·rw [if_neg (c:=i=s/\s<4) (by omega)] at cR ⊢
   by_cases uA:k=s
   ·rw [if_pos (c:=k=s/\s<4) ⟨uA,by omega⟩]
    intro hh
    rcases hx with rfl | hx
    ·have:=(h3 i hi).resolve_left cR
     exact gU this.1 hh.symm
    ·exact hu (fun hz=>by rw [hz] at hx; exact gU hx.1 rfl) i tw hh.symm
   ·rw [if_neg (c:=k=s/\s<4) (by omega)]; exact h4 i k hk hi cR
def bI (d:aa) (p:Int) (s:Nat) (x:Slot):aa:=b9 d p (fb (aO d p) s x)
theorem uZ (T:cE d) {p:Int} (hp:lF p) (s:Nat) (x:Slot) {q:Int} (hq:lF q):(aO (bI d p s x) q).cp=(aO d q).cp:=by
 simp only [bI,il T.db hp hq]; split
 ·next h=>rw [h]; rfl
 ·rfl
theorem kT (T:cE d) {p:Int} (hp:lF p) (hd:(aO d p).cp=true) {s:Nat} (hs:s<=3) (x:Slot) {q:Int} (hq:lF q) (t:Nat):cB (bI d p s x) q t=if q=p/\t=s then x else cB d q t:=by
 have h4:=dg (T.n9 hp.1 hp.2) hd
 simp only [cB,bI,il T.db hp hq]
 by_cases h:q=p
 ·subst h
  simp only [if_true,true_and,fb,cF,h4]
  by_cases ht:t=s
  ·rw [if_pos ⟨ht,by omega⟩,if_pos ht]
  ·rw [if_neg (by omega),if_neg ht]
 ·rw [if_neg h,if_neg (fun hh=>h hh.1)]
theorem qK (T:cE d) {p:Int} (hp:lF p) (ho:mV d p) (hd:(aO d p).cp=true) {s:Nat} (hs:s<=3) (x:Slot) (j:Int) :
  k9 (bI d p s x) j+(if (cB d p s).Ino=j then 1 else 0)=k9 d j+(if x.Ino=j then 1 else 0):=by
 have h4:=dg (T.n9 hp.1 hp.2) hd
 have lJ:p≠0:=by obtain ⟨a,b⟩:=hp; omega
 have h1:=Q0 (d:=d) (d':=bI d p s x) (j:=j) hp fun q hq cR=>by
  simp only [j5,bI,il T.db hp hq,if_neg cR]; rfl
 have MO:qO d p=true:=(jL T.di lJ).2 ho
 have e1:j5 d j p=vY (aO d p) j:=by simp only [j5,MO,zE]
 have e2:j5 (bI d p s x) j p=vY (fb (aO d p) s x) j:=by
  have XT:qO (bI d p s x) p=true:=MO
  simp only [j5,XT,zE]
  simp only [bI,il T.db hp hp,if_true]
 have h2:=Li (b:=aO d p) (s:=s) (by omega) x j
 rw [e1,e2] at h1
 have h3:(cB d p s).Ino=((aO d p).an.getD s au).Ino:=rfl
 rw [h3]
 omega
theorem DG.clear (T:cE d) (g:DG d) {p:Int} (hp:lF p) (ho:mV d p) (hd:(aO d p).cp=true) {s:Nat} (hs:s<=3) (cR:∀ k t,aU d (cB d p s).Ino=2->aW d (cB d p s).Ino k≠0->(cB d (aW d (cB d p s).Ino k) t).Ino=0):DG (bI d p s au):=by
 have pU:=fun {q} (hq:lF q) t=>kT T hp hd hs au hq t
 have hc:=qK T hp ho hd hs au
 refine ⟨g.one,g.bm,g.Na,?_,?_,?_,g.dl,g.rt,?_,?_⟩
 ·intro i k hi h0
  show (aO (bI d p s au) (aW d i k)).cp=true↔_
  rw [uZ T hp s au (T.gV hi h0)]; exact g.pk i k hi h0
 ·intro q t hq Wq; rw [pU hq]
  split
  ·intro h; exact absurd rfl h
  ·exact g.nm q t hq Wq
 ·intro i k t hi zh hk nk h0
  show (cB (bI d p s au) (aW d i k) t).Ino=0
  rw [pU (T.gV hi h0)]
  split
  ·rfl
  ·have h1:=hc i
   have hd0:¬ au.Ino=i:=by show ¬ (0:Int)=i; obtain ⟨a,b⟩:=hi; omega
   rw [nk,if_neg hd0] at h1
   by_cases hh:(cB d p s).Ino=i
   ·subst hh; exact cR k t hk h0
   ·rw [if_neg hh] at h1; exact g.ne i k t hi zh hk (by omega) h0
 ·intro i k l a b hi hk h0 h0'
  show (cB (bI d p s au) (aW d i k) a).Ino≠0->(cB (bI d p s au) (aW d i k) a).Name=(cB (bI d p s au) (aW d i l) b).Name->_
  rw [pU (T.gV hi h0),pU (T.gV hi h0')]
  split
  ·intro h; exact absurd rfl h
  ·split
   ·intro h1 h2
    rcases T.yQ (T.gV hi h0) a with h3 | h3
    ·rw [h3] at h1; exact absurd rfl h1
    ·exact absurd h2 (gU h3.2.2.1)
   ·exact g.un i k l a b hi hk h0 h0'
 ·obtain ⟨r,r1,r2⟩:=g.rk
  refine ⟨r,r1,fun i k t hi hk h0=> ?_⟩
  show (cB (bI d p s au) (aW d i k) t).Ino≠0->aU d (cB (bI d p s au) (aW d i k) t).Ino=2->r (cB (bI d p s au) (aW d i k) t).Ino=_/\_
  rw [pU (T.gV hi h0)]
  split
  ·intro h; exact absurd rfl h
  ·exact r2 i k t hi hk h0
def RK (d:aa) (r:Int->Nat):Prop:=r 1=0/\∀ i k s,I8 i->aU d i=2->aW d i k≠0->(cB d (aW d i k) s).Ino≠0->aU d (cB d (aW d i k) s).Ino=2->r (cB d (aW d i k) s).Ino=r i+1/\r i<4
theorem DG.named (T:cE d) (g:DG d) {p:Int} (hp:lF p) (hd:(aO d p).cp=true) {w:Int} {kw:Nat} (hw:I8 w) (TR:aU d w=2) (HJ:aW d w kw=p) {s:Nat} (hs:s<=3) (h0:cB d p s=au) {nm:ByteArray} {j:Int}
  (hn:bN nm=true) (hj:I8 j) (z6:j≠1) (lz:aU d j≠0) (hcw:w=1\/k9 d w≠0) (hu:∀ l t,aW d w l≠0->(cB d (aW d w l) t).Name≠nm)
  (hr:aU d j=2->(∀ k,aW d j k=0)/\k9 d j=0/\∀ r,RK d r->r w<4):DG (bI d p s ⟨nm,j⟩):=by
 have ho:mV d p:=⟨w,kw,hw,TR,HJ⟩
 have lJ:p≠0:=by obtain ⟨a,b⟩:=hp; omega
 have QK:j≠0:=by obtain ⟨a,b⟩:=hj; omega
 have pU:=fun {q} (hq:lF q) t=>kT T hp hd hs ⟨nm,j⟩ hq t
 have hc:=qK T hp ho hd hs ⟨nm,j⟩
 have gZ:∀ i k,I8 i->aW d i k=p->i=w/\k=kw:=fun i k hi hh=>g.one i k w kw hi hw (hh.trans HJ.symm) (by rw [hh]; exact lJ)
 refine ⟨g.one,g.bm,g.Na,?_,?_,?_,g.dl,g.rt,?_,?_⟩
 ·intro i k hi h0
  show (aO (bI d p s ⟨nm,j⟩) (aW d i k)).cp=true↔_
  rw [uZ T hp s _ (T.gV hi h0)]; exact g.pk i k hi h0
 ·intro q t hq Wq; rw [pU hq]
  split
  ·intro _; exact ⟨lz,z6⟩
  ·exact g.nm q t hq Wq
 ·intro i k t hi zh hk nk hz
  show (cB (bI d p s ⟨nm,j⟩) (aW d i k) t).Ino=0
  have h1:=hc i
  rw [nk,h0,if_neg (show ¬ au.Ino=i by show ¬ (0:Int)=i; obtain ⟨a,b⟩:=hi; omega)] at h1
  rw [pU (T.gV hi hz)]
  split
  ·next hh =>
   have:=gZ i k hi hh.1
   rcases hcw with h2 | h2
   ·exact absurd (this.1.trans h2) zh
   ·rw [this.1] at h1; omega
  ·exact g.ne i k t hi zh hk (by omega) hz
 ·intro i k l a b hi hk hz FG
  show (cB (bI d p s ⟨nm,j⟩) (aW d i k) a).Ino≠0->(cB (bI d p s ⟨nm,j⟩) (aW d i k) a).Name=(cB (bI d p s ⟨nm,j⟩) (aW d i l) b).Name->_
  rw [pU (T.gV hi hz),pU (T.gV hi FG)]
  split
  ·next h1 =>
   have e1:=gZ i k hi h1.1
   split
   ·next h2=>intro _ _; have e2:=gZ i l hi h2.1; exact ⟨e1.2.trans e2.2.symm,h1.2.trans h2.2.symm⟩
   ·intro _ h3; rw [e1.1] at h3 FG; exact absurd h3.symm (hu l b FG)
  ·split
   ·next h2 =>
    have e2:=gZ i l hi h2.1
    intro _ h3; rw [e2.1] at h3 hz; exact absurd h3 (hu k a hz)
   ·exact g.un i k l a b hi hk hz FG
 ·obtain ⟨r,r1,r2⟩:=g.rk
  by_cases h2:aU d j=2
  ·obtain ⟨q1,q2,q3⟩:=hr h2
   have q3:=q3 r ⟨r1,r2⟩
   have c0:=(T.FL QK).1 q2
   have hwj:w≠j:=fun hh=>by rw [← hh] at q1; rw [q1] at HJ; exact lJ HJ.symm
   refine ⟨fun i=>if i=j then r w+1 else r i,by show (if (1:Int)=j then r w+1 else r 1)=0; rw [if_neg (Ne.symm z6)]; exact r1,fun i k t hi hk hz=> ?_⟩
   have Tj:i≠j:=fun hh=>by subst hh; exact hz (q1 k)
   show (cB (bI d p s ⟨nm,j⟩) (aW d i k) t).Ino≠0->aU d (cB (bI d p s ⟨nm,j⟩) (aW d i k) t).Ino=2->(if (cB (bI d p s ⟨nm,j⟩) (aW d i k) t).Ino=j then r w+1 else r (cB (bI d p s ⟨nm,j⟩) (aW d i k) t).Ino)=(if i=j then r w+1 else r i)+1/\(if i=j then r w+1 else r i)<4
   rw [pU (T.gV hi hz),if_neg Tj]
   split
   ·next hh =>
    intro _ _
    have e1:=gZ i k hi hh.1
    rw [if_pos rfl,e1.1]; exact ⟨rfl,q3⟩
   ·intro h3 h4
    rw [if_neg (c0 _ t (T.gV hi hz) ⟨i,k,hi,hk,rfl⟩)]
    exact r2 i k t hi hk hz h3 h4
  ·refine ⟨r,r1,fun i k t hi hk hz=> ?_⟩
   show (cB (bI d p s ⟨nm,j⟩) (aW d i k) t).Ino≠0->aU d (cB (bI d p s ⟨nm,j⟩) (aW d i k) t).Ino=2->r (cB (bI d p s ⟨nm,j⟩) (aW d i k) t).Ino=r i+1/\r i<4
   rw [pU (T.gV hi hz)]
   split
   ·intro _ h4; exact absurd h4 h2
   ·exact r2 i k t hi hk hz
theorem DG.vh (g:DG d) {p:Int} (ho:mV d p) (hp:p≠0):(aO d p).cp=true:=by
 obtain ⟨i,k,hi,h1,h2⟩:=ho
 have:=(g.pk i k hi (by rw [h2]; exact hp)).2 h1
 rw [h2] at this; exact this
theorem pX {x:bE} (h:c9 m x=true) (hk:x.Kind=2\/x.Kind=3):0<x.Block/\(aO m.aa x.Block).cp=true/\(cB m.aa x.Block x.Slot.toNat).Ino=x.Ino:=by
 have e2:((x.Kind==2)||(x.Kind==3))=true:=by simpa using hk
 have e1:((x.Kind==1)||(x.Kind==6))=false:=by rw [Bool.or_eq_false_iff]; constructor<;>(rw [beq_eq_false_iff_ne]; omega)
 simp only [c9,e1,e2,zE,zF,zB,zD,beq_iff_eq] at h
 exact ⟨h.1.1,h.1.2,h.2⟩
theorem p8 {x:bE} (h:c9 m x=true) (hk:x.Kind=4):0<x.Block/\(aO m.aa x.Block).cp=true/\bN x.Name=true:=by
 simp only [c9,hk] at h
 simp at h
 exact ⟨h.1.1,h.1.2,h.2⟩
theorem eA {x:bE} (h:bO m x=true):(1<=x.Id/\x.Id<=m.Next-1)/\(1<=x.Kind/\x.Kind<=6)/\I8 x.Ino/\(0<=x.Ptr/\x.Ptr<=1)/\(0<=x.Block/\x.Block<=16)/\(0<=x.Slot/\x.Slot<=3)/\(0<=x.bz/\x.bz<=m.Next-1):=by
 simp only [bO,zB,aj] at h; exact h
theorem fC.bI (h:fC m) {p:Int} (hp:lF p) (hd:(aO m.aa p).cp=true) {s:Int} (s0:0<=s) (s1:s<=3) {x:Slot} (hx:x=au\/(bN x.Name=true/\I8 x.Ino)) (hu:x≠au->∀ t,t≠s.toNat->(cB m.aa p t).Name≠x.Name)
  (hf:∀ y∈m.ae,iC y=true->y.Block=p->y.Slot≠s):fC ⟨Soft.bI m.aa p s.toNat x,m.ak,m.ae,m.Next⟩:=by
 refine h.pL hp.1 hp.2 (b:=fb (aO m.aa p) s.toNat x) (mY (h.d.n9 hp.1 hp.2) hd (by omega) hx hu) ?_ fun _ _ _ _=>hd
 intro y hy hk hb
 have uA:y.Kind=2\/y.Kind=3:=by simpa using hk
 have h1:=pX (h.xQ y hy) uA
 refine ⟨hd,?_⟩
 have h2:=hf y hy (by rw [fQ]; omega) hb
 have h3:=(eA (h.num y hy)).2.2.2.2.2.1
 simp only [fb,cF]
 rw [if_neg (by omega),← hb,beq_iff_eq]
 exact h1.2.2
theorem Gd.clear (h:Gd 0 X m) {p s:Int} (hp:lF p) (ho:mV m.aa p) (s0:0<=s) (s1:s<=3) (hj:(cB m.aa p s.toNat).Ino≠0) (hf:∀ y∈m.ae,iC y=true->y.Block=p->y.Slot≠s)
  (cR:∀ k t,aU m.aa (cB m.aa p s.toNat).Ino=2->aW m.aa (cB m.aa p s.toNat).Ino k≠0->(cB m.aa (aW m.aa (cB m.aa p s.toNat).Ino k) t).Ino=0) :
  Gd (cB m.aa p s.toNat).Ino X ⟨bI m.aa p s.toNat au,m.ak,m.ae,m.Next⟩:=by
 have T:=h.T'
 have lJ:p≠0:=by obtain ⟨a,b⟩:=hp; omega
 have hd:=h.g.vh ho lJ
 have hJ:=T.Cq hp hj
 obtain ⟨hk,z6⟩:=h.g.nm p s.toNat hp ho hj
 have hc:=qK T hp ho hd (s:=s.toNat) (by omega) au
 have pU:=fun {q} (hq:lF q) t=>kT T hp hd (s:=s.toNat) (by omega) au hq t
 have hR:=h.R.bI hp hd s0 s1 (x:=au) (.inl rfl) (fun hz=>absurd rfl hz) hf
 have hg:=h.g.clear T hp ho hd (s:=s.toNat) (by omega) cR
 refine ⟨hR,h.sz,hg,h.fr,h.Ei,?_,?_,⟨h.rt.1,z6⟩,h.nd,?_,h.us,h.af⟩
 ·intro j XX z6 lz
  have h1:=h.lk j XX z6 lz
  have h2:=hc j
  rw [if_neg (show ¬ (0:Int)=j by obtain ⟨a,b⟩:=XX; omega)] at h1
  rw [if_neg (show ¬ au.Ino=j by show ¬ (0:Int)=j; obtain ⟨a,b⟩:=XX; omega),Nat.add_zero] at h2
  show gK m.aa j=(k9 (bI m.aa p s.toNat au) j:Int)+(gm m.ae j:Nat)+_
  rw [h1,show k9 m.aa j=k9 (bI m.aa p s.toNat au) j+(if (cB m.aa p s.toNat).Ino=j then 1 else 0) from h2.symm]
  split<;>simp<;>omega
 ·intro j XX lz
  exact ⟨(h.Cg j XX lz).1,fun hh=>hk (hh▸lz)⟩
 ·intro x hx h4
  obtain ⟨a,b⟩:=h.rd x hx h4
  refine ⟨?_,b⟩
  have hb:=p8 (h.R.xQ x hx) h4
  have hn:=eA (h.R.num x hx)
  show cB (bI m.aa p s.toNat au) x.Block x.Slot.toNat=au
  rw [pU ⟨by omega,hn.2.2.2.2.1.2⟩]
  split
  ·rfl
  ·exact a
theorem Gd.named {j:Int} (h:Gd j X m) {p s w:Int} {kw:Nat} {nm:ByteArray} (hp:lF p) (hw:I8 w) (TR:aU m.aa w=2) (HJ:aW m.aa w kw=p) (s0:0<=s) (s1:s<=3) (h0:cB m.aa p s.toNat=au)
  (hn:bN nm=true) (hJ:I8 j) (hf:∀ y∈m.ae,iC y=true->y.Block=p->y.Slot≠s) (hcw:w=1\/k9 m.aa w≠0) (hu:∀ l t,aW m.aa w l≠0->(cB m.aa (aW m.aa w l) t).Name≠nm)
  (hr:aU m.aa j=2->(∀ k,aW m.aa j k=0)/\k9 m.aa j=0/\∀ r,RK m.aa r->r w<4):Gd 0 X ⟨bI m.aa p s.toNat ⟨nm,j⟩,m.ak,m.ae,m.Next⟩:=by
 have T:=h.T'
 have lJ:p≠0:=by obtain ⟨a,b⟩:=hp; omega
 have ho:mV m.aa p:=⟨w,kw,hw,TR,HJ⟩
 have hd:=h.g.vh ho lJ
 have hk:aU m.aa j≠0:=fun hh=>(h.Cg j hJ hh).2 rfl
 have z6:=h.rt.2
 have QK:j≠0:=by obtain ⟨a,b⟩:=hJ; omega
 have hc:=qK T hp ho hd (s:=s.toNat) (by omega) ⟨nm,j⟩
 have pU:=fun {q} (hq:lF q) t=>kT T hp hd (s:=s.toNat) (by omega) ⟨nm,j⟩ hq t
 have hR:=h.R.bI hp hd s0 s1 (x:=⟨nm,j⟩) (.inr ⟨hn,hJ⟩) (fun _ t _=>by have:=hu kw t (by rw [HJ]; exact lJ); rw [HJ] at this; exact this) hf
 have hg:=h.g.named T hp hd hw TR HJ (s:=s.toNat) (by omega) h0 hn hJ z6 hk hcw hu hr
 refine ⟨hR,h.sz,hg,h.fr,h.Ei,?_,?_,⟨h.rt.1,by decide⟩,h.nd,?_,h.us,h.af⟩
 ·intro a ha VH pG
  have h1:=h.lk a ha VH pG
  have h2:=hc a
  rw [h0,if_neg (show ¬ au.Ino=a by show ¬ (0:Int)=a; obtain ⟨x,y⟩:=ha; omega),Nat.add_zero] at h2
  show gK m.aa a=(k9 (bI m.aa p s.toNat ⟨nm,j⟩) a:Int)+(gm m.ae a:Nat)+_
  rw [h1,if_neg (show ¬ (0:Int)=a by obtain ⟨x,y⟩:=ha; omega),show k9 (bI m.aa p s.toNat ⟨nm,j⟩) a=k9 m.aa a+(if j=a then 1 else 0) from h2]
  split<;>simp<;>omega
 ·intro a ha pG
  exact ⟨(h.Cg a ha pG).1,by obtain ⟨x,y⟩:=ha; omega⟩
 ·intro x hx h4
  obtain ⟨a,b⟩:=h.rd x hx h4
  refine ⟨?_,b⟩
  have hb:=p8 (h.R.xQ x hx) h4
  have hn:=eA (h.R.num x hx)
  show cB (bI m.aa p s.toNat ⟨nm,j⟩) x.Block x.Slot.toNat=au
  rw [pU ⟨by omega,hn.2.2.2.2.1.2⟩]
  split
  ·next hh=>exact absurd hh.2 (fun h2=>hf x hx (by rw [fQ]; omega) hh.1 (by omega))
  ·exact a
theorem nD {α β:Type} (P:α->Bool) (f:α->β) (z:β):∀ l:List α,(jV P f z l=z/\∀ x∈l,P x=false)\/∃ x∈l,P x=true/\jV P f z l=f x
 | []=> .inl ⟨rfl,fun x hx=>by cases hx⟩
 | x::l=>by
  simp only [jV]
  cases h:P x with
  | true=>exact .inr ⟨x,zO,h,rfl⟩
  | false =>
   rcases nD P f z l with ⟨h1,h2⟩ | ⟨y,hy,h1,h2⟩
   ·refine .inl ⟨h1,fun y hy=> ?_⟩
    rcases zI.1 hy with rfl | hy
    ·exact h
    ·exact h2 y hy
   ·exact .inr ⟨y,zJ _ hy,h1,h2⟩
theorem LL (h:fC m) {x:bE} (hx:x∈m.ae):ie m x.Id=x.Kind:=by
 rcases nD (fun d=>d.Id==x.Id) (·.Kind) 0 m.ae with ⟨_,h2⟩ | ⟨y,hy,h1,h2⟩
 ·have:=h2 x hx; simp at this
 ·rw [ie,h2]
  rw [pQ h.ids hy hx (by simpa using h1)]
theorem uY (h:fC m) (p s:Int):(eY m p s=0/\∀ x∈m.ae,iC x=true->x.Block=p->x.Slot≠s)\/∃ x∈m.ae,iC x=true/\x.Block=p/\x.Slot=s/\eY m p s=x.Id/\ie m (eY m p s)=x.Kind:=by
 rcases nD (fun d=>(iC d&&(d.Block==p))&&(d.Slot==s)) (·.Id) 0 m.ae with ⟨h1,h2⟩ | ⟨y,hy,h1,h2⟩
 ·refine .inl ⟨h1,fun x hx hn hb hs=> ?_⟩
  have:=h2 x hx
  rw [hn,beq_iff_eq.2 hb,beq_iff_eq.2 hs] at this; cases this
 ·simp only [zB,beq_iff_eq] at h1
  refine .inr ⟨y,hy,h1.1.1,h1.1.2,h1.2,h2,?_⟩
  rw [eY,h2]; exact LL h hy
theorem FZ (h:fC m):ie m 0=0:=by
 rcases nD (fun d=>d.Id==0) (·.Kind) 0 m.ae with ⟨h1,_⟩ | ⟨y,hy,h1,h2⟩
 ·exact h1
 ·have:=(eA (h.num y hy)).1
  have h3:y.Id=0:=by simpa using h1
  omega
theorem Gd.eD (h:Gd 0 [] m) (hp:fq m=true) {p s b:Int} (hB:lF p) (ho:mV m.aa p) (s0:0<=s) (s1:s<=3) (hj:(cB m.aa p s.toNat).Ino≠0)
  (cR:∀ k t,aU m.aa (cB m.aa p s.toNat).Ino=2->aW m.aa (cB m.aa p s.toNat).Ino k≠0->(cB m.aa (aW m.aa (cB m.aa p s.toNat).Ino k) t).Ino=0)
  (hb:b=0\/∃ x∈m.ae,x.Id=b/\(x.Kind=2\/x.Kind=3)/\x.Ino=(cB m.aa p s.toNat).Ino/\b≠eY m p s):Gd 0 [] (Soft.eD m p s b):=by
 have T:=h.T'
 have lJ:p≠0:=by obtain ⟨a,b⟩:=hB; omega
 have hd:=h.g.vh ho lJ
 have hJ:=T.Cq hB hj
 have SB:=h.R.dy
 have pU:pJ m p s=cB m.aa p s.toNat:=rfl
 obtain ⟨m1,m2,m3⟩:=cV.1 hp
 simp only [Soft.eD,pU]
 rcases uY h.R p s with ⟨h1,h2⟩ | ⟨x,hx,hn,VF,Tv,h1,h2⟩
 ·have hc:=h.clear hB ho s0 s1 hj h2 cR
  rw [h1,FZ h.R]
  simp only [show ((0:Int)==2)=false from rfl,show ((0:Int)==3)=false from rfl,Bool.or_false,zF]
  have hg:=hc.bG (y:=bP (aE p) m.ak) ((cJ _ _).trans SB)
  have Nc:bN (cB m.aa p s.toNat).Name=true:=by
   rcases T.yQ hB s.toNat with h3 | h3
   ·rw [h3] at hj; exact absurd rfl hj
   ·exact h3.2.2.1
  refine hg.Un (cV.2 ⟨m1,m2,m3⟩) hj hJ hB ho ?_ s0 s1 ?_ Nc h2 ?_
  ·exact (uZ T hB _ _ hB).trans hd
  ·show cB (bI m.aa p s.toNat au) p s.toNat=au
   rw [kT T hB hd (by omega) _ hB,if_pos ⟨rfl,rfl⟩]
  ·rcases hb with rfl | ⟨x,hx,a,b,c,_⟩
   ·exact .inl rfl
   ·exact .inr ⟨x,hx,a,b,c⟩
 ·have Vg:x.Kind=2\/x.Kind=3:=by
   rw [fQ] at hn
   rcases hn with h3 | h3 | h3
   ·exact .inl h3
   ·exact .inr h3
   ·have:=(h.rd x hx h3).1
    rw [VF,Tv] at this; rw [this] at hj; exact absurd rfl hj
  have hxi:x.Ino=(cB m.aa p s.toNat).Ino:=by
   have:=(pX (h.R.xQ x hx) Vg).2.2
   rw [VF,Tv] at this; exact this.symm
  have e1:((ie m (eY m p s)==2)||(ie m (eY m p s)==3))=true:=by rw [h2]; simpa using Vg
  rw [e1,zE]
  have hS:=h.shown hx Vg (b:=b) (by
   rcases hb with rfl | ⟨y,hy,a,b,c,c2⟩
   ·exact .inl rfl
   ·exact .inr ⟨y,hy,a,b,by rw [hxi]; exact c,by rw [← h1]; exact c2⟩)
  have hf:∀ y∈(Soft.shown x.Id b m).ae,iC y=true->y.Block=p->y.Slot≠s:=by
   intro y hy Yo Vd VC
   obtain ⟨z,hz,Tq,rfl⟩:=fc.1 hy
   obtain ⟨a1,a2,a3,a4,a5,a6,a7,a8⟩:=bj x.Id b z
   rw [a5] at Vd; rw [a6] at VC
   have hnz:iC z=true:=by simpa only [iC,a2] using Yo
   have cR:x≠z:=fun hh=>Tq (by rw [hh])
   have:=h.us
   rw [List.pairwise_iff_getElem] at this
   obtain ⟨i1,zh,rfl⟩:=List.mem_iff_getElem.1 hx
   obtain ⟨i2,VL,rfl⟩:=List.mem_iff_getElem.1 hz
   rcases Nat.lt_trichotomy i1 i2 with fM | heq | hgt
   ·exact this i1 i2 zh VL fM hn hnz (VF.trans Vd.symm) (Tv.trans VC.symm)
   ·subst heq; exact cR rfl
   ·exact this i2 i1 VL zh hgt hnz hn (Vd.trans VF.symm) (VC.trans Tv.symm)
  have hc:=hS.clear hB ho s0 s1 hj hf cR
  have hg:=hc.bG (y:=(Soft.shown x.Id b (Soft.nj m p s)).ak) ((yf _ _ _ _).trans ((cJ _ _).trans SB))
  have pS:(⟨bI m.aa p s.toNat au,(Soft.shown x.Id b (Soft.nj m p s)).ak,(Soft.shown x.Id b m).ae,m.Next⟩:Mem)=Soft.shown (eY m p s) b (Soft.nj m p s):=by rw [h1]; rfl
  have sa:Gd (cB m.aa p s.toNat).Ino [] (Soft.shown (eY m p s) b (Soft.nj m p s)):=pS▸hg
  refine sa.ix hJ (cV.2 ⟨?_,m2,m3⟩)
  simp only [Soft.shown,List.length_map]
  exact Nat.lt_of_le_of_lt (List.length_filter_le _ _) m1
theorem Gd.bits (h:Gd e X m) {bb bi:List Bool} (h1:bb.length=16) (h2:bi.length=8) (hb:∀ p,lF p->BI m.aa p=true->bb.getD (p-1).toNat false=true) (hi:∀ i,I8 i->Cr m.aa i=true->bi.getD (i-1).toNat false=true) :
  Gd e X ⟨⟨⟨bb,bi⟩,m.aa.ad,m.aa.ab⟩,m.ak,m.ae,m.Next⟩:=by
 have T:=h.T'
 have hg:DG ⟨⟨bb,bi⟩,m.aa.ad,m.aa.ab⟩:=DG.same T h.g T.di rfl (fun _ _=>rfl) (fun _ _ _=>rfl) (fun _ _ _=>rfl) (fun i k a b=>hb _ (T.gV a b) (h.g.bm i k a b)) (fun i a b=>hi i a (h.g.Na i a b))
 refine ⟨h.R.tP h1 h2,h.sz,hg,?_,h.Ei,h.lk,h.Cg,h.rt,h.nd,h.rd,h.us,h.af⟩
 intro x hx h5
 obtain ⟨a1,a2,a3,a4⟩:=h.fr x hx h5
 refine ⟨a1,hi _ (dm (h.R.num x hx)) a2,a3,fun p hp=>⟨hb p ?_ (a4 p hp).1,(a4 p hp).2⟩⟩
 have:=aj.1 (List.all_eq_true.1 (h.R.bs x hx) p hp)
 exact ⟨this.1,this.2⟩
theorem Gd.je (h:Gd 0 X m) {i k:Int} (hi:I8 i) (hk:k=1\/k=2) (h0:aU m.aa i=0) (hb:Cr m.aa i=true) (hf:∀ x∈m.ae,x.Kind=5->x.Ino≠i) :
  Gd i X ⟨aR m.aa i (ba k),m.ak,m.ae,m.Next⟩:=by
 have T:=h.T'
 have Jy:i≠0:=by obtain ⟨a,b⟩:=hi; omega
 have zh:i≠1:=fun hh=>by have:=h.g.rt; rw [← hh,h0] at this; exact absurd this (by decide)
 have QH:k≠0:=by omega
 have hN:ba k=⟨k,1,[0,0]⟩:=by rcases hk with rfl | rfl<;>rfl
 have hz:∀ kk,([0,0]:List Int).getD kk 0=0:=fun kk=>by
  match kk with
  | 0=>rfl
  | 1=>rfl
  | n+2=>rfl
 have hold:∀ kk,aW m.aa i kk=0:=fun kk=>by
  have h1:=T.sK hi.1 hi.2
  simp only [bx,zB,List.all_eq_true] at h1
  by_cases fM:kk<(ah m.aa i).ax.length
  ·have:=(h1.2.2.2.1 _ (aY 0 fM)).2
   have h2:(ah m.aa i).Kind=0:=h0
   rw [h2] at this
   have h3:((ah m.aa i).ax.getD kk 0==0)=true:=this
   exact beq_iff_eq.1 h3
  ·simp [aW,zT,List.getElem?_eq_none (Nat.le_of_not_lt fM)]
 have c0:∀ p s,lF p->mV m.aa p->(cB m.aa p s).Ino≠i:=fun p s hp ho he=>by
  have:=(h.g.nm p s hp ho (by rw [he]; exact Jy)).1
  rw [he] at this; exact this h0
 have acf:k9 m.aa i=0:=(T.FL Jy).2 c0
 rw [hN]
 have iY:=fun {j} (hj:I8 j)=>dB T.di hi hj ⟨k,1,[0,0]⟩
 have Vo:=fun {j} (hj:I8 j)=>gg T.di hi hj ⟨k,1,[0,0]⟩
 have nf:∀ {j} (hj:I8 j) kk,aW (aR m.aa i ⟨k,1,[0,0]⟩) j kk=aW m.aa j kk:=fun {j} hj kk=>by
  rw [eV T.di hi hj]; split
  ·next hh=>rw [hh,hold,hz]
  ·rfl
 have hO:∀ p,p≠0->(mV (aR m.aa i ⟨k,1,[0,0]⟩) p↔mV m.aa p):=fun p hp=>by
  constructor
  ·rintro ⟨j,kk,hj,a,b⟩
   rw [nf hj] at b; rw [iY hj] at a
   by_cases hh:j=i
   ·subst hh; rw [hold] at b; exact absurd b.symm hp
   ·rw [if_neg hh] at a; exact ⟨j,kk,hj,a,b⟩
  ·rintro ⟨j,kk,hj,a,b⟩
   have hh:j≠i:=fun hh=>by subst hh; rw [hold] at b; exact hp b.symm
   exact ⟨j,kk,hj,by rw [iY hj,if_neg hh]; exact a,by rw [nf hj]; exact b⟩
 have h8:(aR m.aa i ⟨k,1,[0,0]⟩).ad.length=8:=List.length_set.trans T.di
 have hc:∀ j,k9 (aR m.aa i ⟨k,1,[0,0]⟩) j=k9 m.aa j:=fun j=>nT fun p hp=>by
  have lJ:p≠0:=by obtain ⟨a,b⟩:=hp; omega
  simp only [j5]
  rw [xO T.di h8 lJ (hO p lJ)]; rfl
 have hR:=h.R.mW hi.1 hi.2 (x:=⟨k,1,[0,0]⟩) (by rw [← hN]; exact yw hk) (fun x hx vQ he=>by
  have Fv:=h.R.xQ x hx
  have e1:((x.Kind==1)||(x.Kind==6))=true:=vQ
  simp only [c9,e1,zE,zB,zD,beq_iff_eq,he] at Fv
  have h3:=hold x.Ptr.toNat
  simp only [aW] at h3
  omega)
 have hg:DG (aR m.aa i ⟨k,1,[0,0]⟩):=by
  refine ⟨?_,?_,?_,?_,?_,?_,?_,?_,?_,?_⟩
  ·intro a x b y ha hb; rw [nf ha,nf hb]; exact h.g.one a x b y ha hb
  ·intro a x ha; rw [nf ha]; exact h.g.bm a x ha
  ·intro a ha; rw [iY ha]; split
   ·next hh=>intro _; rw [hh]; exact hb
   ·exact h.g.Na a ha
  ·intro a x ha; rw [nf ha,iY ha]; split
   ·next hh=>intro h1; rw [hh,hold] at h1; exact absurd rfl h1
   ·exact h.g.pk a x ha
  ·intro p s hB ho hz
   have lJ:p≠0:=by obtain ⟨a,b⟩:=hB; omega
   rw [hO p lJ] at ho
   have h1:=h.g.nm p s hB ho hz
   refine ⟨?_,h1.2⟩
   show aU (aR m.aa i ⟨k,1,[0,0]⟩) (cB m.aa p s).Ino≠0
   rw [iY (T.Cq hB hz),if_neg (c0 p s hB ho)]; exact h1.1
  ·intro a x s ha VH pG QP; rw [hc] at QP; rw [nf ha]; rw [iY ha] at pG
   by_cases hh:a=i
   ·intro h1; rw [hh,hold] at h1; exact absurd rfl h1
   ·rw [if_neg hh] at pG; exact h.g.ne a x s ha VH pG QP
  ·intro j hj lz; rw [Vo hj]; rw [iY hj] at lz
   by_cases hh:j=i
   ·rw [if_pos hh]
   ·rw [if_neg hh] at lz ⊢; exact h.g.dl j hj lz
  ·rw [iY ⟨by decide,by decide⟩,if_neg (Ne.symm zh)]; exact h.g.rt
  ·intro a x y s t ha pG; rw [nf ha,nf ha]; rw [iY ha] at pG
   by_cases hh:a=i
   ·intro h1; rw [hh,hold] at h1; exact absurd rfl h1
   ·rw [if_neg hh] at pG; exact h.g.un a x y s t ha pG
  ·obtain ⟨r,r1,r2⟩:=h.g.rk
   refine ⟨r,r1,fun a x s ha pG=> ?_⟩
   rw [nf ha]; rw [iY ha] at pG
   by_cases hh:a=i
   ·intro h1; rw [hh,hold] at h1; exact absurd rfl h1
   ·rw [if_neg hh] at pG
    intro h1 h2 h3
    have Js:(cB m.aa (aW m.aa a x) s).Ino≠0:=h2
    have KY:aU (aR m.aa i ⟨k,1,[0,0]⟩) (cB m.aa (aW m.aa a x) s).Ino=2:=h3
    rw [iY (T.Cq (T.gV ha h1) Js),if_neg (c0 _ s (T.gV ha h1) ⟨a,x,ha,pG,rfl⟩)] at KY
    exact r2 a x s ha pG h1 Js KY
 have TG:∀ x∈m.ae,x.Kind=2\/x.Kind=3\/x.Kind=4->x.Block≠0:=fun x hx hk=>by
  rcases hk with h1 | h1 | h1
  ·have:=(pX (h.R.xQ x hx) (.inl h1)).1; omega
  ·have:=(pX (h.R.xQ x hx) (.inr h1)).1; omega
  ·have:=(p8 (h.R.xQ x hx) h1).1; omega
 refine ⟨hR,h.sz,hg,?_,h.Ei,?_,?_,⟨h.rt.1,zh⟩,?_,?_,h.us,h.af⟩
 ·intro x hx h5
  obtain ⟨a1,a2,a3,a4⟩:=h.fr x hx h5
  refine ⟨?_,a2,a3,fun p hp=>⟨(a4 p hp).1,fun j l hj=> ?_⟩⟩
  ·show aU (aR m.aa i ⟨k,1,[0,0]⟩) x.Ino=0
   rw [iY (dm (h.R.num x hx)),if_neg (hf x hx h5)]; exact a1
  ·show aW (aR m.aa i ⟨k,1,[0,0]⟩) j l≠p
   rw [nf hj]; exact (a4 p hp).2 j l hj
 ·intro j hj z6 lz
  have tu:aU (aR m.aa i ⟨k,1,[0,0]⟩) j≠0:=lz
  rw [iY hj] at tu
  show gK (aR m.aa i ⟨k,1,[0,0]⟩) j=(k9 (aR m.aa i ⟨k,1,[0,0]⟩) j:Int)+(gm m.ae j:Nat)+_
  rw [hc,Vo hj]
  by_cases hh:j=i
  ·rw [if_pos hh,if_pos hh.symm,hh,acf,(h.Cg i hi h0).1]; rfl
  ·rw [if_neg hh] at tu ⊢
   rw [if_neg (fun q=>hh q.symm)]
   have:=h.lk j hj z6 tu
   rw [if_neg (show ¬ (0:Int)=j by obtain ⟨a,b⟩:=hj; omega)] at this
   exact this
 ·intro j hj lz
  have tu:aU (aR m.aa i ⟨k,1,[0,0]⟩) j=0:=lz
  rw [iY hj] at tu
  by_cases hh:j=i
  ·rw [if_pos hh] at tu; exact absurd tu QH
  ·rw [if_neg hh] at tu
   exact ⟨(h.Cg j hj tu).1,fun q=>hh q.symm⟩
 ·intro x hx h2
  exact (hO _ (TG x hx (by omega))).2 (h.nd x hx h2)
 ·intro x hx h4
  obtain ⟨a,b⟩:=h.rd x hx h4
  exact ⟨a,b.imp_left (hO _ (TG x hx (by omega))).2⟩
theorem Gd.Oj (h:Gd 0 X m) {i:Int} (hi:I8 i) (hk:aU m.aa i=1) (hl:gK m.aa i<200):Gd i X ⟨aR m.aa i ⟨(ah m.aa i).Kind,(ah m.aa i).Links+1,(ah m.aa i).ax⟩,m.ak,m.ae,m.Next⟩:=by
 have T:=h.T'
 have zh:i≠1:=fun hh=>by have:=h.g.rt; rw [← hh,hk] at this; exact absurd this (by decide)
 have xt:=T.sK hi.1 hi.2
 generalize hx:(⟨(ah m.aa i).Kind,(ah m.aa i).Links+1,(ah m.aa i).ax⟩:aX)=x
 have hxk:x.Kind=aU m.aa i:=by rw [← hx]; rfl
 have QR:x.Links=gK m.aa i+1:=by rw [← hx]; rfl
 have hxp:x.ax=(ah m.aa i).ax:=by rw [← hx]
 have iY:∀ j,I8 j->aU (aR m.aa i x) j=aU m.aa j:=fun j hj=>by
  rw [dB T.di hi hj]; split
  ·next hh=>rw [hh,hxk]
  ·rfl
 have nf:∀ j k,I8 j->aW (aR m.aa i x) j k=aW m.aa j k:=fun j k hj=>by
  rw [eV T.di hi hj]; split
  ·next hh=>rw [hh,hxp]; rfl
  ·rfl
 have h8:(aR m.aa i x).ad.length=8:=List.length_set.trans T.di
 have hO:=n5 iY nf
 have hc:=ot T.di h8 iY nf rfl
 have hR:=h.R.mW hi.1 hi.2 (x:=x) (by
  simp only [bx,zB,aj] at xt ⊢
  have uA:(ah m.aa i).Kind=1:=hk
  have xi:(ah m.aa i).Links<200:=hl
  rw [← hx]; simp only [uA] at xt ⊢
  exact ⟨by decide,by omega,xt.2.2.1,xt.2.2.2.1,rfl⟩) (fun y hy vQ he=>by
  have Fv:=h.R.xQ y hy
  have e1:((y.Kind==1)||(y.Kind==6))=true:=vQ
  simp only [c9,e1,zE,zB,zD,he] at Fv
  rw [hxp]; exact Fv.2)
 have hg:DG (aR m.aa i x):=DG.same T h.g h8 rfl iY nf (fun j hj h2=>by
  rw [gg T.di hi hj]; split
  ·next hh=>rw [hh,hk] at h2; exact absurd h2 (by decide)
  ·rfl) (fun a k ha h0=>h.g.bm a k ha h0) (fun a ha h0=>h.g.Na a ha h0)
 refine ⟨hR,h.sz,hg,?_,h.Ei,?_,?_,⟨h.rt.1,zh⟩,fun y hy h2=>(hO _).2 (h.nd y hy h2),?_,h.us,h.af⟩
 ·intro y hy h5
  obtain ⟨a1,a2,a3,a4⟩:=h.fr y hy h5
  exact ⟨(iY _ (dm (h.R.num y hy))).trans a1,a2,a3,fun p hp=>⟨(a4 p hp).1,fun j k hj=>by show aW (aR m.aa i x) j k≠p; rw [nf j k hj]; exact (a4 p hp).2 j k hj⟩⟩
 ·intro j hj z6 lz
  have tu:aU (aR m.aa i x) j≠0:=lz
  rw [iY j hj] at tu
  show gK (aR m.aa i x) j=(k9 (aR m.aa i x) j:Int)+(gm m.ae j:Nat)+_
  have:=h.lk j hj z6 tu
  rw [if_neg (show ¬ (0:Int)=j by obtain ⟨a,b⟩:=hj; omega)] at this
  rw [hc,gg T.di hi hj]
  by_cases hh:j=i
  ·rw [if_pos hh,if_pos hh.symm,QR,← hh]; omega
  ·rw [if_neg hh,if_neg (fun q=>hh q.symm)]; exact this
 ·intro j hj lz
  have tu:aU (aR m.aa i x) j=0:=lz
  rw [iY j hj] at tu
  exact ⟨(h.Cg j hj tu).1,fun hh=>by rw [← hh,hk] at tu; exact absurd tu (by decide)⟩
 ·intro y hy h4
  obtain ⟨a,b⟩:=h.rd y hy h4
  exact ⟨a,b.imp_left (hO _).2⟩
def kx (m:Mem) (i:Int) (x:Nat) (r:Int) (b:Block):Mem :=
 ⟨aR (b9 m.aa r b) i (gC (ah m.aa i) x r),m.ak,m.ae++[⟨m.Next,1,i,x,r,0,eS,false,false,0,[]⟩],m.Next+1⟩
theorem Gd.grow (h:Gd e X m) (hp:fq m=true) {i:Int} (hi:I8 i) (Jv:aU m.aa i≠0) {x:Nat} (hx:x<=1) (h0:aW m.aa i x=0) {r:Int} (hr:lF r) (hb:BI m.aa r=true) (ML:∀ j k,I8 j->aW m.aa j k≠r)
  (hfF:∀ f∈m.ae,f.Kind=5->r∉f.ab) (Py:∀ y∈m.ae,iC y=true->y.Block≠r) {b:Block} (xt:bF b=true) (hbd:b.cp=true↔aU m.aa i=2) (QE:∀ s,b.an.getD s au=au):Gd e X (kx m i x r b):=by
 obtain ⟨m1,m2,m3⟩:=cV.1 hp
 have T:=h.T'
 have hr0:r≠0:=by obtain ⟨a,b⟩:=hr; omega
 have hlen:(ah m.aa i).ax.length=2:=T.th hi.1 hi.2
 have hD:∀ {P:aa->Prop},(P (kx m i x r b).aa↔P (aR (b9 m.aa r b) i (gC (ah m.aa i) x r))):=Iff.rfl
 have TO:(b9 m.aa r b).ad.length=8:=T.di
 have iY:∀ {j},I8 j->aU (kx m i x r b).aa j=aU m.aa j:=fun {j} hj=>by
  show aU (aR (b9 m.aa r b) i _) j=_
  rw [dB TO hi hj]; split
  ·next hh=>rw [hh]; rfl
  ·rfl
 have Vo:∀ {j},I8 j->gK (kx m i x r b).aa j=gK m.aa j:=fun {j} hj=>by
  show gK (aR (b9 m.aa r b) i _) j=_
  rw [gg TO hi hj]; split
  ·next hh=>rw [hh]; rfl
  ·rfl
 have nf:∀ {j} (hj:I8 j) k,aW (kx m i x r b).aa j k=if j=i/\k=x then r else aW m.aa j k:=fun {j} hj k=>by
  show aW (aR (b9 m.aa r b) i _) j k=_
  rw [eV TO hi hj]
  by_cases hh:j=i
  ·subst hh
   simp only [if_true,true_and,gC,cF,hlen]
   by_cases hk:k=x
   ·rw [if_pos ⟨hk,by omega⟩,if_pos hk]
   ·rw [if_neg (by omega),if_neg hk]; rfl
  ·rw [if_neg hh,if_neg (fun q=>hh q.1)]; rfl
 have QF:∀ {q},lF q->aO (kx m i x r b).aa q=if q=r then b else aO m.aa q:=fun {q} hq=>by
  show aO (b9 m.aa r b) q=_
  exact il T.db hr hq b
 have CP:∀ {q} (hq:lF q) s,cB (kx m i x r b).aa q s=if q=r then au else cB m.aa q s:=fun {q} hq s=>by
  simp only [cB]; rw [QF hq]; split
  ·exact QE s
  ·rfl
 have hO:∀ {p},p≠0->(mV (kx m i x r b).aa p↔mV m.aa p\/(p=r/\aU m.aa i=2)):=fun {p} lJ=>by
  constructor
  ·rintro ⟨j,k,hj,a,c⟩
   rw [iY hj] at a; rw [nf hj] at c
   by_cases hh:j=i/\k=x
   ·rw [if_pos hh] at c; rw [hh.1] at a; exact .inr ⟨c.symm,a⟩
   ·rw [if_neg hh] at c; exact .inl ⟨j,k,hj,a,c⟩
  ·rintro (⟨j,k,hj,a,c⟩ | ⟨rfl,a⟩)
   ·refine ⟨j,k,hj,by rw [iY hj]; exact a,?_⟩
    rw [nf hj,if_neg]
    ·exact c
    ·rintro ⟨rfl,rfl⟩; rw [h0] at c; exact lJ c.symm
   ·exact ⟨i,x,hi,by rw [iY hi]; exact a,by rw [nf hi,if_pos ⟨rfl,rfl⟩]⟩
 have hnr:¬ mV m.aa r:=fun ⟨j,k,hj,_,c⟩=>ML j k hj c
 have h8:(kx m i x r b).aa.ad.length=8:=List.length_set.trans TO
 have hc:∀ {j},j≠0->k9 (kx m i x r b).aa j=k9 m.aa j:=fun {j} QK=>nT fun p hp=>by
  have lJ:p≠0:=by obtain ⟨a,b⟩:=hp; omega
  simp only [j5]; rw [QF hp]
  by_cases hh:p=r
  ·rw [if_pos hh]
   have e1:qO m.aa p=false:=by rw [← Bool.not_eq_true,jL T.di lJ,hh]; exact hnr
   have e2:vY b j=0:=qW.2 fun s hs=>by
    obtain ⟨k,hk,rfl⟩:=List.mem_iff_getElem.1 hs
    have:=QE k
    rw [fh _ _ hk] at this
    rw [this]; exact QK.symm
   rw [e1,e2]; cases qO (kx m i x r b).aa p<;>rfl
  ·rw [if_neg hh]
   have:qO (kx m i x r b).aa p=qO m.aa p:=by
    rw [Bool.eq_iff_iff,jL h8 lJ,jL T.di lJ,hO lJ]
    exact ⟨fun q=>q.resolve_right fun q=>hh q.1,.inl⟩
   rw [this]
 have hR:fC (kx m i x r b):=by
  have s1:=h.R.pL hr.1 hr.2 xt (fun y hy hk QI=>by
   exact absurd QI (Py y hy (fQ.2 (by have uA:y.Kind=2\/y.Kind=3:=(by simpa using hk); omega)))) (fun y hy hk QI=>absurd QI (Py y hy (fQ.2 (by have uA:y.Kind=4:=(by simpa using hk); omega))))
  have s2:=s1.mW hi.1 hi.2 (x:=gC (ah m.aa i) x r) (px (T.sK hi.1 hi.2) Jv x (by obtain ⟨a,b⟩:=hr; omega) hr.2) (fun y hy vQ he=>by
   have Fv:=h.R.xQ y hy
   have Fk:=(eA (h.R.num y hy)).2.2.2.1
   have e1:((y.Kind==1)||(y.Kind==6))=true:=vQ
   simp only [c9,e1,zE,zB,zD,beq_iff_eq,he] at Fv
   simp only [gC,cF,hlen]
   by_cases hh:y.Ptr.toNat=x
   ·rw [hh] at Fv
    have h2:(ah m.aa i).ax.getD x 0=0:=h0
    omega
   ·rw [if_neg (fun q=>hh q.1),beq_iff_eq]; exact Fv.2)
  have s3:=s2.put ⟨0,1,i,x,r,0,eS,false,false,0,[]⟩ (by
   simp only [bO,zB,aj]
   obtain ⟨a,c⟩:=hi; obtain ⟨a',c'⟩:=hr
   exact ⟨⟨m2,by omega⟩,⟨by decide,by decide⟩,⟨a,c⟩,⟨by omega,by omega⟩,⟨by omega,c'⟩,⟨by decide,by decide⟩,by decide,by omega⟩) rfl (by
   have e2:ah (aR (b9 m.aa r b) i (gC (ah m.aa i) x r)) i=gC (ah m.aa i) x r:=by rw [nB TO hi hi,if_pos rfl]
   have e3:(gC (ah m.aa i) x r).ax.getD x 0=r:=by simp only [gC,cF,hlen]; rw [if_pos ⟨trivial,by omega⟩]
   show (bif ((1:Int)==1)||((1:Int)==6) then decide (0<r)&&((ah (aR (b9 m.aa r b) i (gC (ah m.aa i) x r)) i).ax.getD (x:Int).toNat 0==r) else _)=true
   rw [e2,zC,e3]
   obtain ⟨a',c'⟩:=hr
   simp only [show ((1:Int)==1)=true from rfl,Bool.true_or,zE]
   rw [decide_eq_true (by omega),beq_self_eq_true (a:=r)]; rfl)
  have s4:fC (dz ⟨aR (b9 m.aa r b) i (gC (ah m.aa i) x r),m.ak,m.ae,m.Next⟩ ⟨0,1,i,x,r,0,eS,false,false,0,[]⟩).1:=s3
  rw [kL (m:=⟨aR (b9 m.aa r b) i (gC (ah m.aa i) x r),m.ak,m.ae,m.Next⟩) (cV.2 ⟨m1,m2,m3⟩)] at s4
  exact s4
 have hg:DG (kx m i x r b).aa:=by
  refine ⟨?_,?_,?_,?_,?_,?_,?_,?_,?_,?_⟩
  ·intro a k c l ha lD; rw [nf ha,nf lD]
   split
   ·next q1 =>
     split
     ·next q2=>intro _ _; exact ⟨q1.1.trans q2.1.symm,q1.2.trans q2.2.symm⟩
     ·intro q _; exact absurd q.symm (ML c l lD)
   ·split
    ·intro q _; exact absurd q (ML a k ha)
    ·exact h.g.one a k c l ha lD
  ·intro a k ha; rw [nf ha]; split
   ·intro _; exact hb
   ·exact h.g.bm a k ha
  ·intro a ha; rw [iY ha]; exact h.g.Na a ha
  ·intro a k ha; rw [nf ha,iY ha]; split
   ·next q=>intro _; rw [QF hr,if_pos rfl,q.1]; exact hbd
   ·intro q; rw [QF (T.gV ha q),if_neg (ML a k ha)]; exact h.g.pk a k ha q
  ·intro p s hB ho; rw [CP hB]; split
   ·intro q; exact absurd rfl q
   ·next q =>
    have lJ:p≠0:=by obtain ⟨a,b⟩:=hB; omega
    intro hz
    rw [iY (T.Cq hB hz)]
    exact h.g.nm p s hB (((hO lJ).1 ho).resolve_right fun z=>q z.1) hz
  ·intro a k s ha VH pG QP; rw [iY ha] at pG; rw [hc (by obtain ⟨a,b⟩:=ha; omega)] at QP; rw [nf ha]; split
   ·intro _; rw [CP hr,if_pos rfl]; rfl
   ·intro q; rw [CP (T.gV ha q),if_neg (ML a k ha)]; exact h.g.ne a k s ha VH pG QP q
  ·intro j hj; rw [iY hj,Vo hj]; exact h.g.dl j hj
  ·rw [iY ⟨by decide,by decide⟩]; exact h.g.rt
  ·intro a k l s t ha pG; rw [iY ha] at pG; rw [nf ha,nf ha]
   split
   ·intro _ _; rw [CP hr,if_pos rfl]; intro q; exact absurd rfl q
   ·split
    ·intro q _; rw [CP hr,if_pos rfl,CP (T.gV ha q),if_neg (ML a k ha)]
     intro q1 q2
     rcases T.yQ (T.gV ha q) s with z | z
     ·rw [z] at q1; exact absurd rfl q1
     ·exact absurd q2 (gU z.2.2.1)
    ·intro q q'; rw [CP (T.gV ha q),if_neg (ML a k ha),CP (T.gV ha q'),if_neg (ML a l ha)]
     exact h.g.un a k l s t ha pG q q'
  ·obtain ⟨rr,r1,r2⟩:=h.g.rk
   refine ⟨rr,r1,fun a k s ha pG=> ?_⟩
   rw [iY ha] at pG; rw [nf ha]; split
   ·intro _; rw [CP hr,if_pos rfl]; intro q; exact absurd rfl q
   ·intro q; rw [CP (T.gV ha q),if_neg (ML a k ha)]
    intro hz; rw [iY (T.Cq (T.gV ha q) hz)]
    exact r2 a k s ha pG q hz
 have eF:∀ {y},y∈(kx m i x r b).ae->y∈m.ae\/y=⟨m.Next,1,i,x,r,0,eS,false,false,0,[]⟩:=fun {y} hy=>by
  rcases zH.1 hy with hy | hy
  ·exact .inl hy
  ·exact .inr (zS.1 hy)
 have vN:∀ j,gm (kx m i x r b).ae j=gm m.ae j:=fun j=>by
  show gm (m.ae++[_]) j=_
  simp [gm,List.countP_append]
 refine ⟨hR,?_,hg,?_,?_,?_,?_,?_,?_,?_,?_,?_⟩
 ·intro y hy
  rcases eF hy with hy | rfl
  ·exact h.sz y hy
  ·exact ⟨by show eS.size<=cL; decide,by show ([]:List Int).length<=cL; decide⟩
 ·intro y hy h5
  rcases eF hy with hy | rfl
  ·obtain ⟨a1,a2,a3,a4⟩:=h.fr y hy h5
   refine ⟨(iY (dm (h.R.num y hy))).trans a1,a2,a3,fun p hp=>⟨(a4 p hp).1,fun j l hj=> ?_⟩⟩
   rw [nf hj]; split
   ·intro q; exact hfF y hy h5 (q▸hp)
   ·exact (a4 p hp).2 j l hj
  ·exact absurd h5 (by show ¬ (1:Int)=5; decide)
 ·show (m.ae++[_]).Pairwise _
  rw [List.pairwise_append]
  refine ⟨h.Ei,List.pairwise_singleton _ _,?_⟩
  intro a _ c hc _ h5
  rw [zS] at hc; subst hc
  exact absurd h5 (by show ¬ (1:Int)=5; decide)
 ·intro j hj z6; rw [iY hj,Vo hj,vN,hc (by obtain ⟨a,b⟩:=hj; omega)]; exact h.lk j hj z6
 ·intro j hj; rw [iY hj,vN]; exact h.Cg j hj
 ·rw [vN]; exact h.rt
 ·intro y hy h2
  rcases eF hy with hy | rfl
  ·have:=(pX (h.R.xQ y hy) h2).1
   exact (hO (by omega)).2 (.inl (h.nd y hy h2))
  ·exact absurd h2 (by show ¬ ((1:Int)=2\/(1:Int)=3); omega)
 ·intro y hy h4
  rcases eF hy with hy | rfl
  ·obtain ⟨a,c⟩:=h.rd y hy h4
   have hb:=(p8 (h.R.xQ y hy) h4).1
   have hn:=(eA (h.R.num y hy)).2.2.2.2.1
   refine ⟨?_,?_⟩
   ·rw [CP ⟨by omega,hn.2⟩,if_neg (Py y hy (by rw [fQ]; omega))]; exact a
   ·rcases c with c | c | ⟨f,hf,Cm,FH⟩
    ·exact .inl ((hO (by omega)).2 (.inl c))
    ·exact .inr (.inl c)
    ·exact .inr (.inr ⟨f,List.mem_append_left _ hf,Cm,FH⟩)
  ·exact absurd h4 (by show ¬ (1:Int)=4; decide)
 ·show (m.ae++[_]).Pairwise _
  rw [List.pairwise_append]
  refine ⟨h.us,List.pairwise_singleton _ _,?_⟩
  intro a ha c hc _ hn
  rw [zS] at hc; subst hc
  exact absurd hn (by show ¬ iC ⟨m.Next,1,i,x,r,0,eS,false,false,0,_⟩=true; rw [fQ]; simp)
 ·intro y hy h4 hz
  rcases eF hy with hy | rfl
  ·obtain ⟨z,hz,a,c⟩:=h.af y hy h4 hz
   exact ⟨z,List.mem_append_left _ hz,a,c⟩
  ·exact absurd h4 (by show ¬ (1:Int)=4; decide)
theorem Gd.text (h:Gd e [] m) {w p:Int} {k:Nat} (hw:I8 w) (TR:aU m.aa w=1) (HJ:aW m.aa w k=p) (lJ:p≠0) {s:ByteArray} (hs:s.size<=16):Gd e [] ⟨b9 m.aa p ⟨false,[],s⟩,m.ak,m.ae,m.Next⟩:=by
 have T:=h.T'
 have hp:lF p:=by rw [← HJ]; exact T.gV hw (by rw [HJ]; exact lJ)
 have CU:¬ mV m.aa p:=fun ⟨j,l,hj,a,c⟩=>by
  have:=(h.g.one j l w k hj hw (c.trans HJ.symm) (by rw [c]; exact lJ)).1
  rw [this,TR] at a; exact absurd a (by decide)
 have MS:(aO m.aa p).cp=false:=by
  have:=h.g.pk w k hw (by rw [HJ]; exact lJ)
  rw [HJ,TR] at this
  cases hd:(aO m.aa p).cp with
  | false=>rfl
  | true=>exact absurd (this.1 hd) (by decide)
 have QF:∀ {q},lF q->aO (b9 m.aa p ⟨false,[],s⟩) q=if q=p then ⟨false,[],s⟩ else aO m.aa q:=fun hq=>il T.db hp hq _
 have CP:∀ {q} (hq:lF q) t,cB (b9 m.aa p ⟨false,[],s⟩) q t=cB m.aa q t:=fun {q} hq t=>by
  simp only [cB]; rw [QF hq]; split
  ·next hh =>
   subst hh
   rcases T.slot hq t with z | z
   ·exact z.symm
   ·rw [MS] at z; exact absurd z.2.1 (by decide)
  ·rfl
 have hc:∀ j,k9 (b9 m.aa p ⟨false,[],s⟩) j=k9 m.aa j:=fun j=>nT fun q hq=>by
  have Wx:q≠0:=by obtain ⟨a,b⟩:=hq; omega
  have e1:qO (b9 m.aa p ⟨false,[],s⟩) q=qO m.aa q:=rfl
  simp only [j5,e1]; rw [QF hq]; split
  ·next hh =>
   subst hh
   have:qO m.aa q=false:=by rw [← Bool.not_eq_true,jL T.di Wx]; exact CU
   rw [this]; rfl
  ·rfl
 have Fk:∀ y∈m.ae,iC y=true->y.Block≠p:=fun y hy hn hb=>by
  rw [fQ] at hn
  rcases hn with z | z | z
  ·exact CU (hb▸h.nd y hy (.inl z))
  ·exact CU (hb▸h.nd y hy (.inr z))
  ·have:=(p8 (h.R.xQ y hy) z).2.1
   rw [hb,MS] at this; exact absurd this (by decide)
 have hR:=h.R.pL hp.1 hp.2 (b:=⟨false,[],s⟩) (by simp only [bF,zF]; simp [hs]) (fun y hy hk QI=>absurd QI (Fk y hy (fQ.2 (by have uA:y.Kind=2\/y.Kind=3:=(by simpa using hk); omega))))
  (fun y hy hk QI=>absurd QI (Fk y hy (fQ.2 (by have uA:y.Kind=4:=(by simpa using hk); omega))))
 have hg:DG (b9 m.aa p ⟨false,[],s⟩):=by
  refine ⟨h.g.one,h.g.bm,h.g.Na,?_,?_,?_,h.g.dl,h.g.rt,?_,?_⟩
  ·intro i l hi hz
   have FG:aW m.aa i l≠0:=hz
   show (aO (b9 m.aa p ⟨false,[],s⟩) (aW m.aa i l)).cp=true↔aU m.aa i=2
   rw [QF (T.gV hi FG)]; split
   ·next hh =>
    have:=(h.g.one i l w k hi hw (hh.trans HJ.symm) FG).1
    rw [this,TR]; simp
   ·exact h.g.pk i l hi FG
  ·intro q t hq ho; rw [CP hq]; exact h.g.nm q t hq ho
  ·intro i l t hi zh hk nk hz; rw [hc] at nk
   have FG:aW m.aa i l≠0:=hz
   show (cB (b9 m.aa p ⟨false,[],s⟩) (aW m.aa i l) t).Ino=0
   rw [CP (T.gV hi FG)]; exact h.g.ne i l t hi zh hk nk FG
  ·intro i l l' t t' hi hk hz FG
   have q1:aW m.aa i l≠0:=hz
   have q2:aW m.aa i l'≠0:=FG
   show (cB (b9 m.aa p ⟨false,[],s⟩) (aW m.aa i l) t).Ino≠0->(cB (b9 m.aa p ⟨false,[],s⟩) (aW m.aa i l) t).Name=(cB (b9 m.aa p ⟨false,[],s⟩) (aW m.aa i l') t').Name->_
   rw [CP (T.gV hi q1),CP (T.gV hi q2)]; exact h.g.un i l l' t t' hi hk q1 q2
  ·obtain ⟨rr,r1,r2⟩:=h.g.rk
   refine ⟨rr,r1,fun i l t hi hk hz=> ?_⟩
   have q1:aW m.aa i l≠0:=hz
   show (cB (b9 m.aa p ⟨false,[],s⟩) (aW m.aa i l) t).Ino≠0->aU m.aa (cB (b9 m.aa p ⟨false,[],s⟩) (aW m.aa i l) t).Ino=2->rr (cB (b9 m.aa p ⟨false,[],s⟩) (aW m.aa i l) t).Ino=rr i+1/\rr i<4
   rw [CP (T.gV hi q1)]; exact r2 i l t hi hk q1
 refine ⟨hR,h.sz,hg,h.fr,h.Ei,?_,h.Cg,h.rt,h.nd,?_,h.us,h.af⟩
 ·intro j hj z6 lz
  show gK m.aa j=(k9 (b9 m.aa p ⟨false,[],s⟩) j:Int)+(gm m.ae j:Nat)+_
  rw [hc]; exact h.lk j hj z6 lz
 ·intro y hy h4
  obtain ⟨a,c⟩:=h.rd y hy h4
  have hb:=(p8 (h.R.xQ y hy) h4).1
  have hn:=(eA (h.R.num y hy)).2.2.2.2.1
  refine ⟨?_,c⟩
  show cB (b9 m.aa p ⟨false,[],s⟩) y.Block y.Slot.toNat=au
  rw [CP ⟨by omega,hn.2⟩]; exact a
theorem Gd.UF (h:Gd e X m) (hp:fq m=true) {p s j:Int} (hB:lF p) (ho:mV m.aa p) (s0:0<=s) (s1:s<=3) (hj:I8 j) (hs:(cB m.aa p s.toNat).Ino=j) (hf:∀ x∈m.ae,iC x=true->x.Block=p->x.Slot≠s) :
  Gd e X ⟨m.aa,m.ak,m.ae++[⟨m.Next,2,j,0,p,s,eS,false,false,0,[]⟩],m.Next+1⟩:=by
 obtain ⟨m1,m2,m3⟩:=cV.1 hp
 obtain ⟨p1,p2⟩:=hB
 have hd:=h.g.vh ho (by omega)
 have hR:=h.R.put ⟨0,2,j,0,p,s,eS,false,false,0,[]⟩ (by
  simp only [bO,zB,aj]
  exact ⟨⟨m2,by omega⟩,⟨by decide,by decide⟩,hj,⟨by decide,by decide⟩,⟨by omega,p2⟩,⟨s0,s1⟩,by decide,by omega⟩) rfl (by
  have Cl:((aO m.aa p).an.getD s.toNat au).Ino=j:=hs
  simp only [c9,show ((2:Int)==1)=false from rfl,show ((2:Int)==6)=false from rfl,show ((2:Int)==2)=true from rfl,Bool.or_false,Bool.true_or,zF,zE,hd,Cl,beq_self_eq_true,Bool.and_true,zD]
  omega)
 rw [kL hp] at hR
 have eF:∀ {y},y∈m.ae++[(⟨m.Next,2,j,0,p,s,eS,false,false,0,[]⟩:bE)]->y∈m.ae\/y=⟨m.Next,2,j,0,p,s,eS,false,false,0,[]⟩:=fun {y} hy=>by
  rcases zH.1 hy with hy | hy
  ·exact .inl hy
  ·exact .inr (zS.1 hy)
 have vN:∀ j',gm (m.ae++[(⟨m.Next,2,j,0,p,s,eS,false,false,0,[]⟩:bE)]) j'=gm m.ae j':=fun j'=>by
  simp [gm,List.countP_append]
 refine ⟨hR,?_,h.g,?_,?_,?_,?_,?_,?_,?_,?_,?_⟩
 ·intro y hy
  rcases eF hy with hy | rfl
  ·exact h.sz y hy
  ·exact ⟨by show eS.size<=cL; decide,by show ([]:List Int).length<=cL; decide⟩
 ·intro y hy h5
  rcases eF hy with hy | rfl
  ·exact h.fr y hy h5
  ·exact absurd h5 (by show ¬ (2:Int)=5; decide)
 ·rw [List.pairwise_append]
  refine ⟨h.Ei,List.pairwise_singleton _ _,?_⟩
  intro a _ c hc _ h5
  rw [zS] at hc; subst hc
  exact absurd h5 (by show ¬ (2:Int)=5; decide)
 ·intro j'; rw [vN]; exact h.lk j'
 ·intro j'; rw [vN]; exact h.Cg j'
 ·rw [vN]; exact h.rt
 ·intro y hy h2
  rcases eF hy with hy | rfl
  ·exact h.nd y hy h2
  ·exact ho
 ·intro y hy h4
  rcases eF hy with hy | rfl
  ·obtain ⟨a,c⟩:=h.rd y hy h4
   refine ⟨a,?_⟩
   rcases c with c | c | ⟨f,hf,Cm,FH⟩
   ·exact .inl c
   ·exact .inr (.inl c)
   ·exact .inr (.inr ⟨f,List.mem_append_left _ hf,Cm,FH⟩)
  ·exact absurd h4 (by show ¬ (2:Int)=4; decide)
 ·rw [List.pairwise_append]
  refine ⟨h.us,List.pairwise_singleton _ _,?_⟩
  intro a ha c hc hn _ hb
  rw [zS] at hc; subst hc
  exact hf a ha hn hb
 ·intro y hy h4 hz
  rcases eF hy with hy | rfl
  ·obtain ⟨z,hz,a,c⟩:=h.af y hy h4 hz
   exact ⟨z,List.mem_append_left _ hz,a,c⟩
  ·exact absurd h4 (by show ¬ (2:Int)=4; decide)
structure S5 (m:Mem) (r:Int):Prop where
 b:lF r
 p:∀ j k,I8 j->aW m.aa j k≠r
 f:∀ f∈m.ae,f.Kind=5->r∉f.ab
 n:∀ y∈m.ae,iC y=true->y.Block≠r
theorem Gd.fresh (h:Gd e [] m) {r:Int} (hr:lF r) (hb:BI m.aa r=false):S5 m r:=by
 have hr0:r≠0:=by obtain ⟨a,b⟩:=hr; omega
 have h1:∀ j k,I8 j->aW m.aa j k≠r:=fun j k hj hh=>by
  have:=h.g.bm j k hj (by rw [hh]; exact hr0)
  rw [hh,hb] at this; cases this
 have h2:∀ f∈m.ae,f.Kind=5->r∉f.ab:=fun f hf h5 hh=>by
  have:=((h.fr f hf h5).2.2.2 r hh).1
  rw [hb] at this; cases this
 have h3:¬ mV m.aa r:=fun ⟨j,k,hj,_,c⟩=>h1 j k hj c
 refine ⟨hr,h1,h2,fun y hy hn hh=> ?_⟩
 rw [fQ] at hn
 rcases hn with z | z | z
 ·exact h3 (hh▸h.nd y hy (.inl z))
 ·exact h3 (hh▸h.nd y hy (.inr z))
 ·rcases (h.rd y hy z).2 with c | c | ⟨f,hf,Cm,c⟩
  ·exact h3 (hh▸c)
  ·cases c
  ·exact h2 f hf Cm (hh▸c)
theorem Gd.take (h:Gd e [] m) (hr:(aV m).2≠0):Gd e [] (aV m).1/\S5 (aV m).1 (aV m).2/\BI (aV m).1.aa (aV m).2=true:=by
 have T:=h.T'
 revert hr
 simp only [aV]
 cases hz:firstFree m.aa.aq.ab==0 with
 | true=>intro hr; exact absurd rfl hr
 | false =>
  intro _
  simp only [zF,qB]
  rcases om m.aa.aq.ab with ⟨h1,_⟩ | ⟨j,h1,h2,h3,_⟩
  ·rw [h1] at hz; cases hz
  ·have hb:=T.bb
   rw [hb] at h2
   have hj:((firstFree m.aa.aq.ab)-1).toNat=j:=by omega
   have hB:lF (firstFree m.aa.aq.ab):=⟨by omega,by omega⟩
   have Hu:BI m.aa (firstFree m.aa.aq.ab)=false:=by simp only [BI,hj]; exact h3
   have hF:=h.fresh hB Hu
   have hg:=h.bits (bb:=m.aa.aq.ab.set (firstFree m.aa.aq.ab-1).toNat true) (bi:=m.aa.aq.bD) (List.length_set.trans hb) T.bi (fun p hp hh=>by
    rw [cF]; split
    ·rfl
    ·exact hh) (fun _ _ hh=>hh)
   refine ⟨hg.bG ((cJ _ _).trans h.R.dy),⟨hF.b,hF.p,hF.f,hF.n⟩,?_⟩
   simp only [BI,cF]
   rw [if_pos ⟨trivial,by omega⟩]
theorem sB (m:Mem):(aV m).1.ae=m.ae/\(aV m).1.Next=m.Next/\(aV m).1.aa.ad=m.aa.ad/\(aV m).1.aa.ab=m.aa.ab:=by
 simp only [aV]
 cases firstFree m.aa.aq.ab==0<;>simp [qB]
theorem xD {α S:Type} {P:S->Prop} {g:S->α->S}:∀ (l:List α) (a:S),P a->(∀ a,∀ x∈l,P a->P (g a x))->P (l.foldl g a)
 | [],a,h,_=>h
 | x::l,a,h,hs=>xD l _ (hs a x zO h) fun a y hy=>hs a y (zJ _ hy)
theorem L6 (m:Mem) (p:Int) (acc:Int×Int):lE m p acc=acc\/(lE m p acc).1=p:=by
 simp only [lE]
 cases within p 1 m.aa.ab.length&&(aO m.aa p).cp with
 | false=>exact .inl rfl
 | true =>
  simp only [zE]
  refine xD (P:=fun a=>a=acc\/a.1=p) _ _ (.inl rfl) fun a x _ ha=> ?_
  cases lj m p x with
  | true=>exact .inr rfl
  | false=>exact ha
theorem Lt (m:Mem) (l:List Int):nh m l=(0,0)\/∃ k,k<l.length/\l.getD k 0=(nh m l).1:=by
 simp only [nh]
 refine xD (P:=fun a=>a=(0,0)\/∃ k,k<l.length/\l.getD k 0=a.1) _ _ (.inl rfl) fun a x hx ha=> ?_
 have zW:x<l.length:=by simp [List.mem_range'] at hx; omega
 rcases L6 m (l.getD x 0) a with h | h
 ·rw [h]; exact ha
 ·exact .inr ⟨x,zW,h.symm⟩
theorem Ie {p:Int} {s:Nat}:lj m p s=true↔cB m.aa p s=au/\eY m p s=0:=by
 simp only [lj,zB,beq_iff_eq,cB]
 generalize (aO m.aa p).an.getD s au=x
 obtain ⟨n,i⟩:=x
 simp only [GM,Slot.mk.injEq]
structure L3 (m:Mem) (w:Int) (nm:ByteArray) (j:Int):Prop where
 w8:I8 w
 kw:aU m.aa w=2
 nmk:bN nm=true
 j8:I8 j
 cw:w=1\/k9 m.aa w≠0
 no:∀ l t,aW m.aa w l≠0->(cB m.aa (aW m.aa w l) t).Name≠nm
 dr:aU m.aa j=2->(∀ k,aW m.aa j k=0)/\k9 m.aa j=0/\∀ r,RK m.aa r->r w<4
def Jk (id j p s:Int):bE:=⟨id,2,j,0,p,s,eS,false,false,0,[]⟩
theorem Gd.set {j:Int} (h:Gd j X m) (hp:fq m=true) {w p s:Int} {nm:ByteArray} (hI:L3 m w nm j) {k:Nat} (Vf:aW m.aa w k=p) (hB:lF p) (s0:0<=s) (s1:s<=3) (h0:cB m.aa p s.toNat=au) (hf:∀ y∈m.ae,iC y=true->y.Block=p->y.Slot≠s) :
  Gd 0 X (setName m p s nm j).1/\(setName m p s nm j).2=m.Next/\(setName m p s nm j).1=⟨bI m.aa p s.toNat ⟨nm,j⟩,bP 0 (bP (aE p) m.ak),m.ae++[Jk m.Next j p s],m.Next+1⟩:=by
 have T:=h.T'
 have lJ:p≠0:=by obtain ⟨a,b⟩:=hB; omega
 have ho:mV m.aa p:=⟨w,k,hI.w8,hI.kw,Vf⟩
 have hd:=h.g.vh ho lJ
 have hg:=h.named hB hI.w8 hI.kw Vf s0 s1 h0 hI.nmk hI.j8 hf hI.cw hI.no hI.dr
 have Ym:=hg.bG (y:=bP 0 (bP (aE p) m.ak)) ((cJ _ _).trans ((cJ _ _).trans h.R.dy))
 have hs:setName m p s nm j=(⟨bI m.aa p s.toNat ⟨nm,j⟩,bP 0 (bP (aE p) m.ak),m.ae++[Jk m.Next j p s],m.Next+1⟩,m.Next):=by
  have:=kL (m:=⟨bI m.aa p s.toNat ⟨nm,j⟩,bP 0 (bP (aE p) m.ak),m.ae,m.Next⟩) hp ⟨0,2,j,0,p,s,eS,false,false,0,[]⟩
  exact this
 rw [hs]
 refine ⟨?_,rfl,rfl⟩
 refine Ym.UF hp hB ho s0 s1 hI.j8 ?_ hf
 show (cB (bI m.aa p s.toNat ⟨nm,j⟩) p s.toNat).Ino=j
 rw [kT T hB hd (by omega) _ hB,if_pos ⟨rfl,rfl⟩]
theorem Eb:∀ {l:List Int},bU l<l.length->l.getD (bU l) 0=0:=by
 intro l
 induction l with
 | nil=>intro h; cases h
 | cons a l ih =>
  simp only [bU,List.takeWhile_cons]
  cases ha:a==0 with
  | true=>intro _; simpa using ha
  | false =>
   simp only [zN,if_true,zR]
   intro h
   exact ih (by simp only [bU]; omega)
structure Put (m:Mem) (j:Int) (t:Mem×Int):Prop where
 g:Gd 0 [] t.1
 len:t.1.ae.length<=m.ae.length+2
 nx:t.1.Next<=m.Next+2
 dep:∃ p s,Jk t.2 j p s∈t.1.ae/\0<=s/\(mV m.aa p->cB m.aa p s.toNat=au)
 own:∀ p,p≠0->mV m.aa p->mV t.1.aa p
 same:∀ q u,lF q->mV m.aa q->(cB m.aa q u).Ino≠0->cB t.1.aa q u=cB m.aa q u
 kind:∀ i,I8 i->aU t.1.aa i=aU m.aa i
theorem qq {j:Int} (h:Gd j [] m) (hl:m.ae.length<=38) (hn:m.Next<=99998) {w:Int} {nm:ByteArray} (hI:L3 m w nm j):(dL m w nm j).2=0\/Put m j (dL m w nm j):=by
 have T:=h.T'
 have uX:=h.R.n1
 have Hr:=hI.w8
 have XL:1<=w/\w<=8:=Hr
 have hlen:(ah m.aa w).ax.length=2:=T.th XL.1 XL.2
 simp only [dL]
 cases hz:(nh m (ah m.aa w).ax).1==0 with
 | false =>
  simp only [zF]
  have h1:=(Bn m (ah m.aa w).ax).resolve_left (by intro q; rw [q] at hz; cases hz)
  obtain ⟨k,hk,Vf⟩:=(Lt m (ah m.aa w).ax).resolve_left (by intro q; rw [q] at hz; cases hz)
  generalize (nh m (ah m.aa w).ax).1=p at *
  generalize (nh m (ah m.aa w).ax).2=s at *
  have hB:lF p:=⟨h1.p1,by have:=h1.p2; rw [T.db] at this; exact this⟩
  have s0:=h1.s0
  have s1:=h1.s1
  rw [dg (T.n9 hB.1 hB.2) h1.dir] at s1
  obtain ⟨f1,f2⟩:=Ie.1 h1.free
  rw [Int.toNat_of_nonneg s0] at f2
  have hf:∀ y∈m.ae,iC y=true->y.Block=p->y.Slot≠s:=by
   rcases uY h.R p s with ⟨_,q⟩ | ⟨y,hy,_,_,_,q,_⟩
   ·exact q
   ·have:=(eA (h.R.num y hy)).1; omega
  have ho:mV m.aa p:=⟨w,k,Hr,hI.kw,Vf⟩
  obtain ⟨a,b,c⟩:=h.set (cV.2 ⟨by omega,uX,by omega⟩) hI Vf hB s0 (by omega) f1 hf
  refine .inr ⟨a,?_,?_,⟨p,s,?_,s0,fun _=>f1⟩,fun q _ hq=> ?_,fun q u hq Wq cR=> ?_,fun i hi=> ?_⟩
  ·rw [c]; show (m.ae++[_]).length<=_; rw [zK,zL]; omega
  ·rw [c]; show m.Next+1<=_; omega
  ·rw [c,b]; exact List.mem_append_right _ (zS.2 rfl)
  ·rw [c]; exact hq
  ·rw [c]
   show cB (bI m.aa p s.toNat ⟨nm,j⟩) q u=_
   rw [kT T hB h1.dir (by omega) _ hq,if_neg]
   rintro ⟨rfl,rfl⟩; rw [f1] at cR; exact cR rfl
  ·rw [c]; rfl
 | true =>
  simp only [zE]
  cases X6:bU (ah m.aa w).ax==(ah m.aa w).ax.length with
  | true=>exact .inl rfl
  | false =>
  simp only [zF]
  cases ht:(aV m).2==0 with
  | true=>exact .inl rfl
  | false =>
  simp only [zF]
  have hx:bU (ah m.aa w).ax<(ah m.aa w).ax.length:=by
   have:=q9 (ah m.aa w).ax
   have h2:bU (ah m.aa w).ax≠(ah m.aa w).ax.length:=by simpa using X6
   omega
  have Ti:=Eb hx
  rw [hlen] at hx
  generalize bU (ah m.aa w).ax=x at *
  obtain ⟨g1,F,Hu⟩:=h.take (by simpa using ht)
  obtain ⟨t1,t2,t3,t4⟩:=sB m
  generalize aV m=t at *
  have e1:∀ i,ah t.1.aa i=ah m.aa i:=fun i=>by simp only [ah,t3]
  have ek:∀ i,aU t.1.aa i=aU m.aa i:=fun i=>by simp only [aU,e1]
  have ep:∀ i k,aW t.1.aa i k=aW m.aa i k:=fun i k=>by simp only [aW,e1]
  have es:∀ q u,cB t.1.aa q u=cB m.aa q u:=fun q u=>by simp only [cB,aO,t4]
  have eo:∀ p,mV t.1.aa p↔mV m.aa p:=n5 (fun i _=>ek i) (fun i k _=>ep i k)
  have T1:=g1.T'
  have ec:∀ i,k9 t.1.aa i=k9 m.aa i:=ot T.di T1.di (fun i _=>ek i) (fun i k _=>ep i k) t4
  have zl:=g1.grow (cV.2 ⟨by rw [t1]; omega,by rw [t2]; omega,by rw [t2]; omega⟩) (i:=w) Hr (by rw [ek,hI.kw]; decide) (x:=x) (by omega) (by rw [ep]; exact Ti) F.b Hu F.p F.f F.n (b:=⟨true,List.replicate 4 au,eS⟩) (by decide) (by rw [ek,hI.kw]; simp) (fun s=>by
   match s with
   | 0=>rfl
   | 1=>rfl
   | 2=>rfl
   | 3=>rfl
   | s+4=>rfl)
  have HE:dk t.1 w x t.2=⟨(kx t.1 w x t.2 ⟨true,List.replicate 4 au,eS⟩).aa,bP (aM w) (bP (aE t.2) t.1.ak),(kx t.1 w x t.2 ⟨true,List.replicate 4 au,eS⟩).ae,t.1.Next+1⟩:=by
   have:=kL (m:=⟨aR (b9 t.1.aa t.2 ⟨true,List.replicate 4 au,eS⟩) w (gC (ah t.1.aa w) x t.2),bP (aM w) (bP (aE t.2) t.1.ak),t.1.ae,t.1.Next⟩) (cV.2 ⟨by rw [t1]; omega,by rw [t2]; omega,by rw [t2]; omega⟩) ⟨0,1,w,x,t.2,0,eS,false,false,0,[]⟩
   simp only [dk]; rw [this]; rfl
  have Ym:=zl.bG (y:=bP (aM w) (bP (aE t.2) t.1.ak)) ((cJ _ _).trans ((cJ _ _).trans g1.R.dy))
  have SI:Gd j [] (dk t.1 w x t.2):=by rw [HE]; exact Ym
  have TO:(b9 t.1.aa t.2 ⟨true,List.replicate 4 au,eS⟩).ad.length=8:=T1.di
  have gk:∀ i,I8 i->aU (dk t.1 w x t.2).aa i=aU m.aa i:=fun i hi=>by
   rw [HE]
   show aU (aR (b9 t.1.aa t.2 _) w _) i=_
   rw [dB TO Hr hi]; split
   ·next q=>rw [q]; exact ek w
   ·exact ek i
  have gp:∀ i k,I8 i->aW (dk t.1 w x t.2).aa i k=if i=w/\k=x then t.2 else aW m.aa i k:=fun i k hi=>by
   rw [HE]
   show aW (aR (b9 t.1.aa t.2 _) w _) i k=_
   rw [eV TO Hr hi]
   by_cases hh:i=w
   ·subst hh
    have MR:(ah t.1.aa i).ax.length=2:=by rw [e1]; exact hlen
    simp only [if_true,true_and,gC,cF,MR]
    by_cases hk:k=x
    ·rw [if_pos ⟨hk,by omega⟩,if_pos hk]
    ·rw [if_neg (by omega),if_neg hk]; exact ep i k
   ·rw [if_neg hh,if_neg (fun q=>hh q.1)]; exact ep i k
  have gs:∀ q u,lF q->cB (dk t.1 w x t.2).aa q u=if q=t.2 then au else cB m.aa q u:=fun q u hq=>by
   rw [HE]
   show cB (b9 t.1.aa t.2 ⟨true,List.replicate 4 au,eS⟩) q u=_
   simp only [cB,il T1.db F.b hq]
   split
   ·match u with
    | 0=>rfl
    | 1=>rfl
    | 2=>rfl
    | 3=>rfl
    | u+4=>rfl
   ·exact es q u
  have hnO:¬ mV m.aa t.2:=fun ⟨a,k,ha,_,hc⟩=>F.p a k ha (by rw [ep]; exact hc)
  have go:∀ p,p≠0->mV m.aa p->mV (dk t.1 w x t.2).aa p:=fun p lJ ⟨a,k,ha,hb,hc⟩=>by
   refine ⟨a,k,ha,by rw [gk a ha]; exact hb,?_⟩
   rw [gp a k ha,if_neg]
   ·exact hc
   ·rintro ⟨rfl,rfl⟩
    have:aW m.aa a k=0:=Ti
    rw [this] at hc; exact lJ hc.symm
  have gc:∀ i,i≠0->(k9 (dk t.1 w x t.2).aa i=0↔k9 m.aa i=0):=fun i Jy=>by
   rw [SI.T'.FL Jy,T.FL Jy]
   constructor
   ·intro q p s hp ho
    have:=q p s hp (go p (by obtain ⟨a,b⟩:=hp; omega) ho)
    rw [gs p s hp,if_neg (show ¬ p=t.2 from fun z=>hnO (z▸ho))] at this; exact this
   ·rintro q p s hp ⟨a,k,ha,hb,hc⟩
    rw [gs p s hp]; split
    ·exact Jy.symm
    ·next cR =>
     rw [gk a ha] at hb; rw [gp a k ha] at hc
     split at hc
     ·exact absurd hc.symm cR
     ·exact q p s hp ⟨a,k,ha,hb,hc⟩
  have TC:L3 (dk t.1 w x t.2) w nm j:=by
   refine ⟨Hr,by rw [gk w Hr]; exact hI.kw,hI.nmk,hI.j8,?_,?_,?_⟩
   ·rcases hI.cw with q | q
    ·exact .inl q
    ·exact .inr fun z=>q ((gc w (by omega)).1 z)
   ·intro l u; rw [gp w l Hr]; split
    ·intro _; rw [gs _ _ F.b,if_pos rfl]; exact fun q=>gU hI.nmk q.symm
    ·intro q
     rw [gs _ _ (T.gV Hr q),if_neg (fun z=>F.p w l Hr (by rw [ep]; exact z))]; exact hI.no l u q
   ·intro q; rw [gk j hI.j8] at q
    obtain ⟨q1,q2,q3⟩:=hI.dr q
    have hjw:j≠w\/j=w:=(Decidable.em _).symm
    have acY:j≠w:=fun z=>by
     subst z
     have nk:=hI.cw
     rcases nk with z | z
     ·exact h.rt.2 z
     ·exact z q2
    refine ⟨fun k=>by rw [gp j k hI.j8,if_neg (fun z=>acY z.1)]; exact q1 k,(gc j (by have:=hI.j8; obtain ⟨a,b⟩:=this; omega)).2 q2,fun r hr=>q3 r ⟨hr.1,fun a k s ha hb hc hd he=> ?_⟩⟩
    have:=hr.2 a k s ha (by rw [gk a ha]; exact hb)
    have cR:¬ (a=w/\k=x):=by rintro ⟨rfl,rfl⟩; exact hc Ti
    rw [gp a k ha,if_neg cR,gs _ _ (T.gV ha hc),if_neg (fun z=>F.p a k ha (by rw [ep]; exact z))] at this
    exact this hc hd (by rw [gk _ (T.Cq (T.gV ha hc) hd)]; exact he)
  have gn:(dk t.1 w x t.2).Next=m.Next+1:=by rw [HE]; show t.1.Next+1=_; rw [t2]
  have gl:(dk t.1 w x t.2).ae.length=m.ae.length+1:=by rw [HE]; show (t.1.ae++[_]).length=_; rw [zK,zL,t1]
  have hf:∀ y∈(dk t.1 w x t.2).ae,iC y=true->y.Block=t.2->y.Slot≠0:=by
   intro y hy Yo Vd
   rw [HE] at hy
   rcases zH.1 hy with hy | hy
   ·exact absurd Vd (F.n y hy Yo)
   ·rw [zS] at hy; subst hy
    rw [fQ] at Yo
    have:((1:Int)=2\/(1:Int)=3\/(1:Int)=4):=Yo
    omega
  obtain ⟨a,b,c⟩:=SI.set (cV.2 ⟨by rw [gl]; omega,by rw [gn]; omega,by rw [gn]; omega⟩) TC (k:=x) (p:=t.2) (s:=0) (by rw [gp w x Hr,if_pos ⟨rfl,rfl⟩]) F.b (by decide) (by decide) (by rw [gs _ _ F.b,if_pos rfl]) hf
  have MS:(aO (dk t.1 w x t.2).aa t.2).cp=true:=SI.g.vh ⟨w,x,Hr,by rw [gk w Hr]; exact hI.kw,by rw [gp w x Hr,if_pos ⟨rfl,rfl⟩]⟩ (by have:=F.b; obtain ⟨a,b⟩:=this; omega)
  refine .inr ⟨a,?_,?_,⟨t.2,0,?_,by decide,fun q=>absurd q hnO⟩,fun q Wx hq=> ?_,fun q u hq Wq cR=> ?_,fun i hi=> ?_⟩
  ·rw [c]; show ((dk t.1 w x t.2).ae++[_]).length<=_; rw [zK,zL,gl]; omega
  ·rw [c]; show (dk t.1 w x t.2).Next+1<=_; rw [gn]; omega
  ·rw [c,b]; exact List.mem_append_right _ (zS.2 rfl)
  ·rw [c]; exact go q Wx hq
  ·rw [c]
   show cB (bI (dk t.1 w x t.2).aa t.2 (0:Int).toNat ⟨nm,j⟩) q u=_
   have hq2:q≠t.2:=fun z=>hnO (z▸Wq)
   rw [kT SI.T' F.b MS (by decide) _ hq,if_neg (fun z=>hq2 z.1),gs q u hq,if_neg hq2]
  ·rw [c]; exact gk i hi
theorem UU {b:UInt8} (h:Xd b=true):(b==47)=false:=by
 rw [beq_eq_false_iff_ne]
 rintro rfl
 exact absurd h (by decide)
theorem wI:∀ (x cur rest:List UInt8),(∀ b∈x,(b==47)=false)->od cur (x++rest)=od (cur++x) rest
 | [],cur,rest,_=>by simp
 | b::x,cur,rest,h=>by
  rw [List.cons_append]
  simp only [od,h b zO,zF]
  rw [wI x _ rest fun c hc=>h c (zJ _ hc),List.append_assoc]; rfl
theorem qx {s:ByteArray} (h:bN s=true):∀ b∈s.data.toList,(b==47)=false:=fun b hb=>by
 simp only [bN,zB,List.all_eq_true] at h
 exact UU (h.1 b hb)
def uU (l:List ByteArray):List UInt8:=l.flatMap fun x=>47::x.data.toList
theorem xC:∀ (xs:List ByteArray) (cur:List UInt8),(∀ y∈xs,bN y=true)->od cur (uU xs)=yT cur::xs
 | [],cur,_=>rfl
 | y::xs,cur,h=>by
  have hy:=h y zO
  show od cur (47::(y.data.toList++uU xs))=_
  simp only [od,beq_self_eq_true,zE]
  rw [wI _ _ _ (qx hy),List.nil_append,xC xs _ fun z hz=>h z (zJ _ hz)]
  rfl
theorem oh (l:List ByteArray):(eX l).data.toList=uU l:=by
 have:∀ (l:List ByteArray) (a:ByteArray),(l.foldl (fun s x=>(s++S [47])++x) a).data.toList=a.data.toList++uU l:=by
  intro l
  induction l with
  | nil=>intro a; simp [uU]
  | cons x l ih =>
   intro a
   rw [List.foldl_cons,ih]
   simp only [ByteArray.data_append,Array.toList_append,uU,List.flatMap_cons,List.append_assoc]
   rfl
 exact this l eS
theorem Bu {l:List ByteArray} (h0:l≠[]) (h:∀ y∈l,bN y=true) (h4:l.length<=4):aN (eX l)=(l,true):=by
 match l,h0 with
 | x::xs,_ =>
  have hx:=h x zO
  have hb:(eX (x::xs)).data.toList=47::(x.data.toList++uU xs):=oh _
  have cR:∃ c t,x.data.toList=c::t:=by
   have:=(eW hx).1
   cases hd:x.data.toList with
   | nil=>rw [size_eq,hd] at this; simp at this
   | cons c t=>exact ⟨c,t,rfl⟩
  obtain ⟨c,t,de⟩:=cR
  have hs:od [] (x.data.toList++uU xs)=x::xs:=by
   rw [wI _ _ _ (qx hx),List.nil_append,xC xs _ fun z hz=>h z (zJ _ hz)]
   rfl
  simp only [aN,hb,beq_self_eq_true,zE]
  rw [de,List.cons_append] at hs ⊢
  simp only [hs]
  have ha:((x::xs).all bN&&decide ((x::xs).length<=4))=true:=by
   rw [zB,List.all_eq_true,zD]; exact ⟨h,h4⟩
  rw [ha]; rfl
theorem Aa:aN (S [47])=([],true):=rfl
theorem gW {p:ByteArray} (h:(ao p).2.2=true):∃ l x,aN p=(l++[x],true)/\aN (ao p).1=(l,true)/\(ao p).2.1=x/\bN x=true/\(∀ y∈l,bN y=true)/\l.length<=3:=by
 simp only [ao] at h ⊢
 cases h2:(aN p).2 with
 | false=>rw [h2] at h; cases h
 | true =>
  obtain ⟨Fk,hlen⟩:=m7 h2
  rw [h2] at h
  generalize hl:(aN p).1=l at *
  cases hz:l.length==0 with
  | true=>rw [hz] at h; cases h
  | false =>
   have h0:l≠[]:=by rintro rfl; cases hz
   have Yw:l=l.dropLast++[l.getLast h0]:=(List.dropLast_concat_getLast h0).symm
   rw [List.all_eq_true] at Fk
   have hd:∀ y∈l.dropLast,bN y=true:=fun y hy=>Fk y (List.dropLast_subset _ hy)
   have Ck:l.dropLast.length<=3:=by simp; omega
   refine ⟨l.dropLast,l.getLast h0,?_,?_,?_,Fk _ (List.getLast_mem h0),hd,Ck⟩
   ·rw [← Yw,← hl,← h2]
   ·simp only [zM,Bool.false_or,zF]
    by_cases hn:l.dropLast=[]
    ·have:(eX l.dropLast==eS)=true:=by rw [hn]; rfl
     rw [this,zE,hn]; exact Aa
    ·have:(eX l.dropLast==eS)=false:=by
      rw [beq_eq_false_iff_ne]; intro q
      have h3:=oh l.dropLast
      rw [q] at h3
      cases Jm:l.dropLast with
      | nil=>exact hn Jm
      | cons a b=>rw [Jm] at h3; cases h3
     rw [this,zF]; exact Bu hn hd (by omega)
   ·simp only [zM,Bool.false_or,zF]
    have hp:0<l.length:=List.length_pos_iff.2 h0
    rw [fh _ _ (by omega:l.length-1<l.length),List.getLast_eq_getElem]
structure EM (d:aa) (w:Int) (nm:ByteArray) (f:Int×Int×Int):Prop where
 w8:I8 w
 kw:aU d w=2
 ptr:∃ k,aW d w k=f.1
 b:lF f.1
 s:0<=f.2.1/\f.2.1<=3
 sl:cB d f.1 f.2.1.toNat=⟨nm,f.2.2⟩
 i8:I8 f.2.2
theorem EM.own {w:Int} {nm:ByteArray} {f:Int×Int×Int} (h:EM d w nm f):mV d f.1:=by
 obtain ⟨k,hk⟩:=h.ptr
 exact ⟨w,k,h.w8,h.kw,hk⟩
theorem s6 {b:Block} {nm:ByteArray} (hn:nm≠eS):(fe b nm= -1/\∀ s,(b.an.getD s au).Name≠nm)\/∃ j:Nat,fe b nm=j/\j<b.an.length/\(b.an.getD j au).Name=nm:=by
 have hz:(nm==eS)=false:=beq_eq_false_iff_ne.2 hn
 simp only [fe,hz,zF]
 rcases fN (fun s:Slot=>s.Name==nm) b.an with h | ⟨j,h,hj⟩
 ·refine .inl ⟨h,fun s=> ?_⟩
  have key:∀ l:List Slot,bY (fun s:Slot=>s.Name==nm) l= -1->∀ x∈l,x.Name≠nm:=by
   intro l
   induction l with
   | nil=>intro _ x hx; cases hx
   | cons y l ih =>
    intro hp x hx
    simp only [bY] at hp
    cases hy:y.Name==nm with
    | true=>rw [hy] at hp; have yp:(0:Int)= -1:=hp; omega
    | false =>
     rw [hy] at hp
     simp only [zF] at hp
     rcases zI.1 hx with rfl | hx
     ·simpa using hy
     ·refine ih ?_ x hx
      rcases fN (fun s:Slot=>s.Name==nm) l with q | ⟨j,q,_⟩
      ·exact q
      ·rw [q] at hp; have yp:((j+1:Nat):Int)= -1:=hp; omega
  by_cases hs:s<b.an.length
  ·exact key _ h _ (aY au hs)
  ·rw [zT,List.getElem?_eq_none (Nat.le_of_not_lt hs)]
   exact fun q=>hn q.symm
 ·refine .inr ⟨j,h,hj,?_⟩
  have:=xM (fun s:Slot=>s.Name==nm) au _ j h
  simpa using this
theorem vV (T:cE d) {w:Int} {nm:ByteArray} (hn:bN nm=true):(find d w nm=(0,0,0)/\(I8 w->aU d w=2->(∀ k,aW d w k≠0->(aO d (aW d w k)).cp=true)->∀ k t,aW d w k≠0->(cB d (aW d w k) t).Name≠nm))\/EM d w nm (find d w nm):=by
 simp only [find,T.di]
 cases hc:within w 1 (8:Nat)&&(ah d w).Kind==2 with
 | false =>
  refine .inl ⟨rfl,fun h8 hk=> ?_⟩
  rw [show within w 1 ((8:Nat):Int)=true from aj.2 ⟨h8.1,h8.2⟩,show (ah d w).Kind=2 from hk] at hc; cases hc
 | true =>
  simp only [zB,aj,beq_iff_eq] at hc
  simp only [zE]
  have key:∀ (l:List Int),(∀ p∈l,p=0\/lF p)->(fX d nm l=(0,0,0)/\∀ p∈l,p≠0->(aO d p).cp=true->∀ t,(cB d p t).Name≠nm) \/
    (fX d nm l).1∈l/\lF (fX d nm l).1/\(0<=(fX d nm l).2.1/\(fX d nm l).2.1<=3)/\cB d (fX d nm l).1 (fX d nm l).2.1.toNat=⟨nm,(fX d nm l).2.2⟩/\I8 (fX d nm l).2.2:=by
   intro l
   induction l with
   | nil=>intro _; exact .inl ⟨rfl,fun p hp=>by cases hp⟩
   | cons p l ih =>
    intro hl
    have ih:=ih fun q hq=>hl q (zJ _ hq)
    simp only [fX]
    cases hf:((dw d p).2&&(dw d p).1.cp)&&decide (0<=fe (dw d p).1 nm) with
    | true =>
     simp only [zB,zD] at hf
     simp only [zE]
     have hw:within p 1 d.ab.length=true:=by
      cases hw:within p 1 d.ab.length with
      | true=>rfl
      | false=>simp only [dw,hw,zF] at hf; exact absurd hf.1.1 (by decide)
     have hb:dw d p=(aO d p,true):=by simp only [dw,hw,zE]
     rw [hb] at hf ⊢
     rw [aj,T.db] at hw
     have hB:lF p:=⟨hw.1,hw.2⟩
     rcases s6 (b:=aO d p) (gU hn) with ⟨q,_⟩ | ⟨j,q,hj,Fk⟩
     ·exact absurd hf.2 (by show ¬ 0<=fe (aO d p) nm; rw [q]; decide)
     ·have h4:=dg (T.n9 hB.1 hB.2) hf.1.2
      refine .inr ⟨zO,hB,?_,?_,?_⟩
      ·show 0<=fe (aO d p) nm/\fe (aO d p) nm<=3; rw [q]; omega
      ·show cB d p (fe (aO d p) nm).toNat=⟨nm,((aO d p).an.getD (fe (aO d p) nm).toNat au).Ino⟩
       rw [q,zC,← Fk]; rfl
      ·show I8 ((aO d p).an.getD (fe (aO d p) nm).toNat au).Ino
       rw [q,zC]
       rcases T.yQ hB j with z | z
       ·have z':(aO d p).an.getD j au=au:=z
        rw [z'] at Fk; exact absurd Fk.symm (gU hn)
       ·exact z.2.2.2
    | false =>
     simp only [zF]
     rcases ih with ⟨h1,h2⟩ | ⟨h1,h2⟩
     ·refine .inl ⟨h1,fun q hq Wx hqd t=> ?_⟩
      rcases zI.1 hq with rfl | hq
      ·have hB:=(hl q zO).resolve_left Wx
       have hw:within q 1 d.ab.length=true:=by rw [aj,T.db]; exact ⟨hB.1,hB.2⟩
       have hb:dw d q=(aO d q,true):=by simp only [dw,hw,zE]
       rw [hb] at hf
       simp only [hqd,Bool.true_and,decide_eq_false_iff_not] at hf
       rcases s6 (b:=aO d q) (gU hn) with ⟨_,z⟩ | ⟨j,z,_⟩
       ·exact z t
       ·rw [z] at hf; omega
      ·exact h2 q hq Wx hqd t
     ·exact .inr ⟨zJ _ h1,h2⟩
  have Hr:I8 w:=⟨hc.1.1,hc.1.2⟩
  have hP:∀ p∈(ah d w).ax,p=0\/lF p:=fun p hp=>by
   by_cases h0:p=0
   ·exact .inl h0
   ·obtain ⟨k,hk⟩:=(mM h0).1 hp
    have uA:aW d w k=p:=hk
    exact .inr (uA▸T.gV Hr (by rw [uA]; exact h0))
  rcases key _ hP with ⟨h1,h2⟩ | ⟨h1,h2,h3,h4,h5⟩
  ·refine .inl ⟨h1,fun _ _ hd k t h0=> ?_⟩
   exact h2 (aW d w k) ((mM h0).2 ⟨k,rfl⟩) h0 (hd k h0) t
  ·refine .inr ⟨Hr,hc.2,?_,h2,h3,h4,h5⟩
   exact (mM (by obtain ⟨a,b⟩:=h2; omega)).1 h1
theorem uG (x:ByteArray):∀ (l:List ByteArray) (i:Int),cA d i (l++[x])=bif within (find d (cA d i l) x).2.2 1 d.ad.length then (find d (cA d i l) x).2.2 else 0
 | [],i=>rfl
 | y::l,i=>by
  rw [List.cons_append]
  simp only [cA]
  cases within (find d i y).2.2 1 d.ad.length with
  | true=>exact uG x l _
  | false =>
   simp only [zF]
   have:find d 0 x=(0,0,0):=by simp only [find]; rw [show within 0 1 d.ad.length=false by simp [within]]; rfl
   rw [this,show within (0,0,0).2.2 1 d.ad.length=false by simp [within]]; rfl
theorem Du (T:cE d) (g:DG d):∀ (l:List ByteArray) (i:Int),(∀ y∈l,bN y=true)->I8 i->(i=1\/k9 d i≠0)->aU d i≠0->cA d i l=0\/(I8 (cA d i l)/\(cA d i l=1\/k9 d (cA d i l)≠0)/\aU d (cA d i l)≠0/\∀ r,RK d r->aU d (cA d i l)=2->r (cA d i l)=r i+l.length/\aU d i=2)
 | [],i,_,hi,hc,hk=> .inr ⟨hi,hc,hk,fun r _ h2=>⟨rfl,h2⟩⟩
 | x::l,i,hl,hi,hc,hk=>by
  simp only [cA,T.di]
  rcases vV T (w:=i) (hl x zO) with ⟨h1,_⟩ | F
  ·rw [h1,show within (0,0,0).2.2 1 (8:Nat)=false by simp [within]]; exact .inl rfl
  ·have h8:=F.i8
   have hS:=F.sl
   have hB:=F.b
   have hO:=F.own
   obtain ⟨kk,iY⟩:=F.ptr
   generalize find d i x=f at *
   rw [show within f.2.2 1 ((8:Nat):Int)=true from aj.2 ⟨h8.1,h8.2⟩,zE]
   have QK:f.2.2≠0:=by obtain ⟨a,b⟩:=h8; omega
   have hI:(cB d f.1 f.2.1.toNat).Ino=f.2.2:=by rw [hS]
   have Fk:=g.nm f.1 f.2.1.toNat hB hO (by rw [hI]; exact QK)
   rw [hI] at Fk
   have hcn:k9 d f.2.2≠0:=fun z=>(T.FL QK).1 z f.1 f.2.1.toNat hB hO hI
   rcases Du T g l f.2.2 (fun y hy=>hl y (zJ _ hy)) h8 (.inr hcn) Fk.1 with q | ⟨q1,q2,q3,q4⟩
   ·exact .inl q
   ·refine .inr ⟨q1,q2,q3,fun r hr h2=> ?_⟩
    obtain ⟨q5,q6⟩:=q4 r hr h2
    have Wn:f.1≠0:=by obtain ⟨a,b⟩:=hB; omega
    have:=hr.2 i kk f.2.1.toNat hi F.kw (by rw [iY]; exact Wn)
    rw [iY,hI] at this
    have:=(this QK q6).1
    exact ⟨by rw [q5,this,zR]; omega,F.kw⟩
end Go.Soft
