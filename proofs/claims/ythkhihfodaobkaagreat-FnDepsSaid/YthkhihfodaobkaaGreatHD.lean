import Derived.Test.YthkhihfodaobkaaGreatHC
import Derived.Laws.BitsLemmas
set_option linter.constructorNameAsVariable false
set_option linter.unusedVariables false
set_option linter.unusedSimpArgs false
namespace Go.Soft
open Go
variable {R:Type}
instance:LawfulBEq ByteArray where
 eq_of_beq {a b} h:=by
  cases a; cases b
  have h:(_==_)=true:=h
  exact congrArg ByteArray.mk (eq_of_beq (α:=Array UInt8) h)
 rfl {a}:=by cases a; exact beq_self_eq_true (α:=Array UInt8) _
theorem bT {n:Int} (h1: -9223372036854775808<=n) (h2:n<=9223372036854775807):aA n=n:=by
 simp only [aA,IntKind.wrap_i64]; omega
theorem ei {n:Nat} (h:n<=9223372036854775807):aA (n:Int)=n:=bT (by omega) (by omega)
theorem bL {n:Nat} (h:n<=4611686018427387904):aA ((n:Int)+1)=((n+1:Nat):Int):=by rw [bT (by omega) (by omega)]; rfl
theorem aF (i n:Nat):aZ (i:Int) n=decide (i<n):=by
 simp only [aZ]
 by_cases h:i<n
 ·simp [h]
 ·simp [h]
theorem bh (i n:Nat):decide ((i:Int)<(n:Int))=decide (i<n):=by simp
theorem bc (k:Option R):aK true k=k:=rfl
theorem aj {c:Bool} {k:Option R} (h:c=true):aK c k=k:=by rw [h]; rfl
theorem bZ {α:Type} {l:List α} (h:l.length<=1099511627776):bg l=true:=Nat.ble_eq_true_of_le h
theorem iP {a b:ByteArray} (h:a.size+b.size<=4611686018427387904):lY a b=true:=decide_eq_true h
theorem bH {α:Type} (a b:α):(bif true then a else b)=a:=rfl
theorem bn {α:Type} (a b:α):(bif false then a else b)=b:=rfl
theorem Kl {α β:Type} (k:α->β) (c:Bool) (a b:α):(bif c then k a else k b)=k (bif c then a else b):=by cases c<;>rfl
def bk:Nat:=100000000
def cM:Nat:=2097152
theorem kD {L:Nat->Int->Option R} {len B:Nat} {p:Nat->Bool} {e q:Option R} (hl:len<=4611686018427387904)
  (hs:∀ m i,B<m->i<len->L (m+1) (i:Int)=bif p i then L m (aA ((i:Int)+1)) else e) (hq:∀ m,L (m+1) (len:Int)=q) :
  ∀ (k m i:Nat),i+k=len->k+B<m->L m (i:Int)=bif (List.range' i k).all p then q else e
 | 0,0,i,h1,h2=>by omega
 | 0,m+1,i,h1,h2=>by
  have:i=len:=by omega
  subst this; rw [hq]; rfl
 | k+1,0,i,h1,h2=>by omega
 | k+1,m+1,i,h1,h2=>by
  rw [hs m i (by omega) (by omega),bL (by omega),List.range'_succ,List.all_cons]
  cases hp:p i with
  | false=>rfl
  | true=>rw [kD hl hs hq k m (i+1) (by omega) (by omega)]; rfl
theorem DU {α:Type} (l:List α) (d:α) (P:α->Bool):(List.range' 0 l.length).all (fun i=>P (l.getD i d))=l.all P:=by
 have h:(List.range' 0 l.length).map (fun i=>l.getD i d)=l:=by
  apply List.ext_getElem
  ·simp
  ·intro i h1 h2; simp at h2 ⊢; simp [h2]
 conv=>rhs; rw [← h,List.all_map]
 rfl
def within (x a b:Int):Bool:=decide (a<=x)&&decide (x<=b)
theorem jh (x a b:Int) (k:Bool->Option R):cq x a b k=k (within x a b):=rfl
def ba (kind:Int):aV:=⟨kind,bif kind==0 then 0 else 1,[0,0]⟩
theorem jz (kind:Int) (k:aV->Option R):ey kind k=k (ba kind):=by
 simp only [ey,ba]; cases kind==0<;>rfl
def bp (x:aV):Bool:=within x.Kind 0 2&&(within x.Links 0 200&&(x.ay.length==2&&(x.ay.all (fun p=>within p 0 16&&(x.Kind != 0||p==0))&&(x.Kind != 0||x.Links==0))))
theorem we {n:Nat} (hn:bk<=n) (x:aV) (k:Bool->Option R):nZ n x k=k (bp x):=by
 simp only [nZ,jh,bp]
 cases within x.Kind 0 2 with
 | false=>rfl
 | true =>
  cases within x.Links 0 200 with
  | false=>rfl
  | true =>
   simp only [zM,zN,zE,Bool.false_or,Bool.true_and]
   by_cases hp:x.ay.length=2
   ·have yX:(x.ay.length:Int)==2:=by simp [hp]
    rw [yX,hp]
    have:=kD (R:=R) (L:=jK x.Kind x.ay (fun eH=>k eH) (k ((!(x.Kind==0))||(x.Links==0)))) (len:=2) (B:=0) (p:=fun i=>within (x.ay.getD i 0) 0 16&&(x.Kind != 0||x.ay.getD i 0==0))
     (e:=k false) (q:=k ((!(x.Kind==0))||(x.Links==0))) (by omega) (fun m i _ hi=>by
      simp only [jK,jh,aF,hp,zC]
      rw [show decide ((i:Int)<2)=true by simp; omega,show decide (i<2)=true by simp; omega]
      simp only [zE,bc,Bool.or_true,bne]
      cases within (x.ay.getD i 0) 0 16<;>cases x.Kind==0<;>cases x.ay.getD i 0==0<;>rfl) (fun m=>by simp [jK]) 2 n 0 rfl (by simp only [bk] at hn; omega)
    simp only [zM,zF]
    refine this.trans ?_
    rw [← hp,DU x.ay 0 (fun p=>within p 0 16&&(x.Kind != 0||p==0))]
    simp only [beq_self_eq_true,Bool.true_and,bne]
    rw [Kl]; congr 1
    cases List.all x.ay _<;>rfl
   ·have yX:((x.ay.length:Int)==2)=false:=by simp; omega
    have NK:(x.ay.length==2)=false:=by simpa using hp
    rw [yX,NK]; rfl
def ux (c:eF):Prop:=0<=c.i/\c.b.length<=cM
def Cn (c c':eF):Prop:=ux c'/\c'.b=c.b
theorem Cn.mk' {c c':eF} (h:Cn c c'):(⟨c.b,c'.i,c'.h⟩:eF)=c':=by obtain ⟨_,h⟩:=h; cases c'; simp only at h; subst h; rfl
theorem Cn.tr {a b c:eF} (h:Cn a b) (h':Cn b c):Cn a c:=⟨h'.1,h'.2.trans h.2⟩
theorem F2 (a:Int):0<=Bp .i64 a 255/\Bp .i64 a 255<=255:=by
 have h:(BitVec.ofInt IntKind.i64.bits a &&& BitVec.ofInt IntKind.i64.bits 255).toNat<=255:=by
  rw [BitVec.toNat_and]
  exact Nat.le_trans Nat.and_le_right (by decide)
 simp only [Bp,IntKind.wrap_i64]
 omega
def Kp (c:eF):Int:=aA ((aA (c.h*6364136223846793005))+1442695040888963407)
def Xw (c:eF):Int:=U2 .i64 (MK .i64 (Kp c) 33) (MK .i64 (Kp c) 45)
theorem nY (c:eF) (hc:ux c):∃ x c',0<=x/\x<=255/\Cn c c'/\∀ k:Int->eF->Option R,iS c k=k x c':=by
 obtain ⟨h1,h2⟩:=hc
 have J8:c.b.length<=2097152:=h2
 by_cases h:c.i<(c.b.length:Int)
 ·refine ⟨Bp .i64 (aA (Bp .i64 (Xw c) 255+aA ((c.b.getD c.i.toNat 0).toNat:Int))) 255,⟨c.b,aA (c.i+1),Kp c⟩,(F2 _).1,(F2 _).2,⟨⟨?_,h2⟩,rfl⟩,fun k=> ?_⟩
  ·show 0<=aA (c.i+1)
   rw [bT (by omega) (by omega)]; omega
  ·simp only [iS]
   rw [decide_eq_true h,bH,aj]
   ·rfl
   ·simp only [aZ,zB,zD]; omega
 ·refine ⟨Bp .i64 (Xw c) 255,⟨c.b,c.i,Kp c⟩,(F2 _).1,(F2 _).2,⟨⟨h1,h2⟩,rfl⟩,fun k=> ?_⟩
  simp only [iS]
  rw [decide_eq_false h,bn]
  rfl
theorem bj (n:Int) (hn:0<n) (h2:n<=4611686018427387904) (c:eF) (hc:ux c):∃ x c',0<=x/\x<n/\Cn c c'/\∀ k:Int->eF->Option R,aE n c k=k x c':=by
 by_cases h:n<=256
 ·obtain ⟨x,c',x1,x2,lS,e⟩:=nY (R:=R) c hc
  refine ⟨x.tmod n,c',Int.tmod_nonneg _ x1,?_,lS,fun k=> ?_⟩
  ·exact Int.tmod_lt_of_pos _ hn
  ·simp only [aE]
   rw [decide_eq_false (by omega),bn,decide_eq_true h,bH,e,lS.mk',aj]
   simp; omega
 ·obtain ⟨x1,c1,_,_,cb,e1⟩:=nY (R:=R) c hc
  obtain ⟨x2,c2,_,_,fy,e2⟩:=nY (R:=R) c1 cb.1
  obtain ⟨x3,c3,_,_,iZ,e3⟩:=nY (R:=R) c2 fy.1
  obtain ⟨x4,c4,_,_,su,e4⟩:=nY (R:=R) c3 iZ.1
  have b2:=cb.tr fy
  have b3:=b2.tr iZ
  have b4:=b3.tr su
  refine ⟨(aA ((aA ((aA ((aA (x1*16777216))+(aA (x2*65536))))+(aA (x3*256))))+x4)).tmod n,c4,?_,Int.tmod_lt_of_pos _ hn,b4,fun k=> ?_⟩
  ·refine Int.tmod_nonneg _ ?_
   rw [bT (n:=x1*16777216) (by omega) (by omega),bT (n:=x2*65536) (by omega) (by omega),bT (n:=x3*256) (by omega) (by omega),bT (n:=x1*16777216+x2*65536) (by omega) (by omega),bT (n:=x1*16777216+x2*65536+x3*256) (by omega) (by omega),bT (by omega) (by omega)]
   omega
  ·simp only [aE]
   rw [decide_eq_false (by omega),bn,decide_eq_false h,bn,e1,cb.mk',e2,b2.mk',e3,b3.mk',e4,b4.mk',aj]
   simp; omega
theorem aU {α:Type} {l:List α} {i:Nat} (d:α) (h:i<l.length):l.getD i d∈l:=by
 have:l.getD i d=l[i]:=by simp [zT,h]
 rw [this]; exact List.getElem_mem _
theorem fD (l:List Int) (hl:0<l.length) (h2:l.length<=cM) (c:eF) (hc:ux c):∃ x c',x∈l/\Cn c c'/\∀ k:Int->eF->Option R,dE l c k=k x c':=by
 have h2:l.length<=2097152:=h2
 obtain ⟨x,c',x1,x2,lS,e⟩:=bj (R:=R) (l.length:Int) (by omega) (by omega) c hc
 refine ⟨l.getD x.toNat 0,c',aU 0 (by omega),lS,fun k=> ?_⟩
 simp only [dE]
 rw [e,aj,lS.mk']
 simp only [aZ,zB,zD]; omega
theorem uz (l:List ByteArray) (hl:0<l.length) (h2:l.length<=cM) (c:eF) (hc:ux c):∃ x c',x∈l/\Cn c c'/\∀ k:ByteArray->eF->Option R,fR l c k=k x c':=by
 have h2:l.length<=2097152:=h2
 obtain ⟨x,c',x1,x2,lS,e⟩:=bj (R:=R) (l.length:Int) (by omega) (by omega) c hc
 refine ⟨l.getD x.toNat eS,c',aU eS (by omega),lS,fun k=> ?_⟩
 simp only [fR]
 rw [e,aj,lS.mk']
 simp only [aZ,zB,zD]; omega
def qb:List ByteArray:=[S [97],S [98],S [99],S [100,100],S [101,49]]
theorem Eo (c:eF) (hc:ux c):∃ x c',x∈qb/\Cn c c'/\∀ k:ByteArray->eF->Option R,qz c k=k x c':=by
 obtain ⟨x,c',x1,lS,e⟩:=uz (R:=R) qb (by decide) (by decide) c hc
 refine ⟨x,c',x1,lS,fun k=> ?_⟩
 simp only [qz]
 exact (e _).trans (by rw [lS.mk'])
theorem fg (n:Int) (hn:0<n) (h2:n<=4611686018427387904) (c:eF) (hc:ux c):∃ (x:Bool) (c':eF),Cn c c'/\∀ k:Bool->eF->Option R,cO n c k=k x c':=by
 obtain ⟨x,c',x1,x2,lS,e⟩:=bj (R:=R) n hn h2 c hc
 refine ⟨x==0,c',lS,fun k=> ?_⟩
 simp only [cO]
 rw [e,lS.mk']
theorem aH {n k:Nat} (hn:bk<=n) (h:k<100000000):k<n:=Nat.lt_of_lt_of_le h hn
theorem cB (a b:Nat):((a:Int)==(b:Int))=(a==b):=by
 by_cases h:a=b
 ·subst h; simp
 ·rw [beq_eq_false_iff_ne.2 h,beq_eq_false_iff_ne.2 (by omega)]
theorem HQ (s:ByteArray) (i:Nat):bt s i=(s.data.toList.getD i 0).toNat:=by
 simp [bt,Array.getD_eq_getD_getElem?,zT]
theorem size_eq (s:ByteArray):s.size=s.data.toList.length:=rfl
theorem fj {α:Type} {L:Nat->Int->Option R} {l:List α} (d:α) {B:Nat} {P:α->Bool} {e q:Option R} (hl:l.length<=4611686018427387904)
  (hs:∀ m i,B<m->i<l.length->L (m+1) (i:Int)=bif P (l.getD i d) then L m (aA ((i:Int)+1)) else e) (hq:∀ m,L (m+1) (l.length:Int)=q)
  {n:Nat} (hn:l.length+B<n):L n 0=bif l.all P then q else e:=by
 have:=kD (R:=R) hl hs hq l.length n 0 (by omega) hn
 rw [DU l d P] at this
 exact this
def TN (x:UInt8):Bool:=(decide (97<=x.toNat)&&decide (x.toNat<=122))||(decide (48<=x.toNat)&&decide (x.toNat<=57))
def bN (s:ByteArray):Bool:=s.data.toList.all TN&&within s.size 1 6
theorem uD {n:Nat} (hn:bk<=n) (s:ByteArray) (hs:s.size<=cM) (k:Bool->Option R):ky n s k=k (bN s):=by
 simp only [ky,jh,bN]
 have CX:s.data.toList.length<=2097152:=hs
 have:=fj (R:=R) (L:=kZ s (fun x=>k x) (k (within s.size 1 6))) (l:=s.data.toList) 0 (B:=0) (P:=TN) (e:=k false) (q:=k (within s.size 1 6)) (by omega)
  (fun m i _ hi=>by
   have sx:i<s.size:=hi
   simp only [kZ,bh,aF,sx,zV,Bool.or_true,bc,zE,zC,HQ,TN]
   generalize s.data.toList.getD i 0=x
   have e1:decide (((x.toNat:Nat):Int)<97)= !decide (97<=x.toNat):=by
    by_cases h:97<=x.toNat<;>simp [h]<;>omega
   have e2:decide ((122:Int)<((x.toNat:Nat):Int))= !decide (x.toNat<=122):=by
    by_cases h:x.toNat<=122<;>simp [h]<;>omega
   have e3:decide (((x.toNat:Nat):Int)<48)= !decide (48<=x.toNat):=by
    by_cases h:48<=x.toNat<;>simp [h]<;>omega
   have e4:decide ((57:Int)<((x.toNat:Nat):Int))= !decide (x.toNat<=57):=by
    by_cases h:x.toNat<=57<;>simp [h]<;>omega
   rw [e1,e2,e3,e4]
   cases decide (97<=x.toNat)<;>cases decide (x.toNat<=122)<;>cases decide (48<=x.toNat)<;>cases decide (x.toNat<=57)<;>rfl)
  (fun m=>by
   have:(s.data.toList.length:Int)=(s.size:Int):=rfl
   simp [kZ,this]) (n:=n) (aH hn (by omega))
 refine this.trans ?_
 rw [Kl]; congr 1
 cases List.all s.data.toList TN<;>rfl
theorem uq {L:Nat->Int->Option R} {len B:Nat} {p:Nat->Bool} {e:Int->Option R} {q:Option R} (hl:len<=4611686018427387904)
  (hs:∀ m i,B<m->i<len->L (m+1) (i:Int)=bif p i then e i else L m (aA ((i:Int)+1))) (hq:∀ m,L (m+1) (len:Int)=q) :
  ∀ (k m i:Nat),i+k=len->k+B<m->L m (i:Int)=match (List.range' i k).find? p with | some j=>e j | none=>q
 | 0,0,i,h1,h2=>by omega
 | 0,m+1,i,h1,h2=>by
  have:i=len:=by omega
  subst this; rw [hq]; rfl
 | k+1,0,i,h1,h2=>by omega
 | k+1,m+1,i,h1,h2=>by
  rw [hs m i (by omega) (by omega),bL (by omega),List.range'_succ,List.find?_cons]
  cases hp:p i with
  | true=>rfl
  | false=>exact uq hl hs hq k m (i+1) (by omega) (by omega)
def bB {α:Type} (P:α->Bool):List α->Int
 | []=> -1
 | x::l=>bif P x then 0 else match bB P l with | .ofNat j=> .ofNat (j+1) | _=> -1
theorem vJ {α:Type} (P:α->Bool) (d:α) (l:List α):∀ (s:List α) (i:Nat),s=l.drop i->i<=l.length ->
  (match (List.range' i (l.length-i)).find? (fun j=>P (l.getD j d)) with | some j=>(j:Int) | none=> -1)=match bB P s with | .ofNat j=>((i+j:Nat):Int) | _=> -1
 | [],i,h,hi=>by
  have:l.length<=i:=by
   have:=congrArg List.length h; simp at this; omega
  rw [show l.length-i=0 by omega]; rfl
 | x::s,i,h,hi=>by
  have fW:i<l.length:=by
   have:=congrArg List.length h; simp at this; omega
  have hx:l.getD i d=x:=by
   have:=congrArg (fun l=>l[0]?) h
   simp only [List.getElem?_cons_zero,List.getElem?_drop,Nat.add_zero] at this
   simp [zT,← this]
  have hs:s=l.drop (i+1):=by
   have:=congrArg List.tail h
   simpa [List.tail_drop] using this
  obtain ⟨k,hk⟩:∃ k,l.length-i=k+1:=⟨l.length-i-1,by omega⟩
  rw [hk,List.range'_succ,List.find?_cons,hx]
  cases hp:P x with
  | true=>simp [bB,hp]
  | false =>
   have ih:=vJ P d l s (i+1) hs (by omega)
   rw [show l.length-(i+1)=k by omega] at ih
   simp only [bB,hp,zF]
   rw [ih]
   cases LJ:bB P s with
   | ofNat j=>simp; omega
   | negSucc j=>rfl
def dI (b:Block) (name:ByteArray):Int:=bif name==eS then -1 else bB (fun s=>s.Name==name) b.ah
theorem gg {α:Type} (P:α->Bool):∀ l:List α,bB P l= -1\/∃ j:Nat,bB P l=j/\j<l.length
 | []=> .inl rfl
 | x::l=>by
  simp only [bB]
  cases P x with
  | true=>exact .inr ⟨0,rfl,by simp⟩
  | false =>
   rcases gg P l with h | ⟨j,h,hj⟩
   ·rw [h]; exact .inl rfl
   ·rw [h]; exact .inr ⟨j+1,rfl,by simp; omega⟩
theorem DF {n:Nat} (hn:bk<=n) (b:Block) (hb:b.ah.length<=cM) (name:ByteArray) (k:Int->Option R):qm n b name k=k (dI b name):=by
 simp only [qm,dI]
 have J0:b.ah.length<=2097152:=hb
 have:=uq (R:=R) (L:=kW name b.ah (fun x=>k x) (k (-1))) (len:=b.ah.length) (B:=0) (p:=fun i=> !(name==eS)&&((b.ah.getD i aq).Name==name)) (e:=fun i=>k i) (q:=k (-1)) (by omega)
  (fun m i _ hi=>by
   simp only [kW,bh,aF,hi,zV,Bool.or_true,bc,zE,zC]) (fun m=>by simp [kW]) b.ah.length n 0 (by omega) (aH hn (by omega))
 refine this.trans ?_
 cases Q6:name==eS with
 | true =>
  have:(List.range' 0 b.ah.length).find? (fun i=> !true&&((b.ah.getD i aq).Name==name))=none:=by
   rw [List.find?_eq_none]; intro x _; simp
  rw [this]; rfl
 | false =>
  have h2:=vJ (fun s:Slot=>s.Name==name) aq b.ah b.ah 0 rfl (by omega)
  simp only [Nat.sub_zero,Nat.zero_add] at h2
  simp only [zN,Bool.true_and,zF]
  have h3:(match bB (fun s:Slot=>s.Name==name) b.ah with | .ofNat j=>((j:Nat):Int) | _=> -1)=bB (fun s:Slot=>s.Name==name) b.ah:=by
   rcases gg (fun s:Slot=>s.Name==name) b.ah with h | ⟨j,h,_⟩<;>rw [h]<;>rfl
  rw [← h3,← h2]
  cases List.find? _ _<;>rfl
def rY (l:List Slot) (i:Nat):Bool:=((l.getD i aq).Name==eS&&(l.getD i aq).Ino==0)||((bN (l.getD i aq).Name&&within (l.getD i aq).Ino 1 8)&&(List.range' 0 i).all fun k=> !((l.getD k aq).Name==(l.getD i aq).Name))
def yf (l:List Slot):Bool:=(List.range' 0 4).all (rY l)
def bA (b:Block):Bool:=bif b.cf then (b.ah.length==4&&b.Text==eS)&&yf b.ah else b.ah.length==0&&decide (b.Text.size<=16)
def Br (s:Slot):Prop:=s.Name.size<=cM
def ur (b:Block):Prop:=b.ah.length<=cM/\b.Text.size<=cM/\∀ s∈b.ah,Br s
def Az (x:aV):Prop:=x.ay.length<=cM
structure ja (d:aa):Prop where
 bb:d.au.ab.length<=cM
 bi:d.au.bF.length<=cM
 di:d.ad.length<=cM
 db:d.ab.length<=cM
 ino:∀ x∈d.ad,Az x
 pd:∀ b∈d.ab,ur b
theorem CD {n:Nat} (hn:bk<=n) (b:Block) (hb:ur b) (k:Bool->Option R):qt n b k=k (bA b):=by
 simp only [qt,bA]
 cases hd:b.cf with
 | false =>
  simp only [zN,zE,zF]
  congr 2
  ·exact cB b.ah.length 0
  ·exact decide_eq_decide.2 (by omega)
 | true =>
  simp only [zM,zE,zF]
  rw [show (4:Int)=((4:Nat):Int) from rfl,cB]
  cases hl:b.ah.length==4 with
  | false=>rfl
  | true =>
   cases ht:b.Text==eS with
   | false=>rfl
   | true =>
    have Rk:b.ah.length=4:=by simpa using hl
    simp only [zM,Bool.or_false,zF,Bool.true_and]
    have:=kD (R:=R) (L:=fL n b.ah (fun x=>k x) (k true)) (len:=4) (B:=10) (p:=rY b.ah) (e:=k false) (q:=k true) (by omega)
     (fun m i hm hi=>by
      have hn4:(b.ah.getD i aq).Name.size<=cM:=hb.2.2 _ (aU aq (by omega))
      simp only [fL,jh,aF,Rk,zC,rY]
      rw [show decide ((i:Int)<4)=true by simp; omega,show decide (i<4)=true by simp; omega]
      simp only [zE,bc]
      cases h1:(b.ah.getD i aq).Name==eS&&(b.ah.getD i aq).Ino==0 with
      | true=>rfl
      | false =>
       simp only [zF,Bool.false_or]
       rw [uD hn _ hn4]
       cases bN (b.ah.getD i aq).Name with
       | false=>rfl
       | true =>
        cases within (b.ah.getD i aq).Ino 1 8 with
        | false=>rfl
        | true =>
         simp only [zM,zN,zE,Bool.or_false,zF,Bool.true_and]
         have h2:=kD (R:=R) (L:=iT (i:Int) (b.ah.getD i aq).Name b.ah (fun x=>k x) (fL n b.ah (fun x=>k x) (k true) m (aA ((i:Int)+1)))) (len:=i) (B:=0)
          (p:=fun j=> !((b.ah.getD j aq).Name==(b.ah.getD i aq).Name)) (e:=k false) (q:=fL n b.ah (fun x=>k x) (k true) m (aA ((i:Int)+1))) (by omega)
          (fun m j _ hj=>by
           simp only [iT,bh,aF,hj,zV,Rk,zC,zE]
           rw [show decide (j<4)=true by simp; omega,bc]
           cases (b.ah.getD j aq).Name==(b.ah.getD i aq).Name<;>rfl) (fun m=>by simp [iT]) i m 0 (by omega) (by omega)
         exact h2) (fun m=>by simp [fL]) 4 n 0 rfl (aH hn (by omega))
    refine this.trans ?_
    rw [Kl]; congr 1
    show _=yf b.ah
    simp only [yf]
    cases List.all _ _<;>rfl
def p9 (b:au):Bool:=b.ab.length==16&&b.bF.length==8
theorem Ej (b:au) (k:Bool->Option R):sY b k=k (p9 b):=by
 simp only [sY,p9]
 rw [show (16:Int)=((16:Nat):Int) from rfl,show (8:Int)=((8:Nat):Int) from rfl,cB,cB]
def lz (d:aa):Bool:=(p9 d.au&&(d.ad.length==8&&d.ab.length==16))&&(d.ad.all bp&&d.ab.all bA)
theorem yz {n:Nat} (hn:bk<=n) (d:aa) (hd:ja d) (k:Bool->Option R):qu n d k=k (lz d):=by
 simp only [qu,lz,Ej]
 rw [show (16:Int)=((16:Nat):Int) from rfl,show (8:Int)=((8:Nat):Int) from rfl,cB,cB]
 have l1:d.ad.length<=2097152:=hd.di
 have l2:d.ab.length<=2097152:=hd.db
 cases p9 d.au<;>cases d.ad.length==8<;>cases d.ab.length==16<;>try rfl
 simp only [zM,Bool.or_false,zF,Bool.true_and]
 have h2:=fj (R:=R) (L:=ie n d.ab (fun x=>k x) (k true)) (l:=d.ab) aC (B:=0) (P:=bA) (e:=k false) (q:=k true) (by omega)
  (fun m i _ hi=>by
   simp only [ie,bh,aF,hi,zV,bc,zE,zC]
   rw [CD hn _ (hd.pd _ (aU aC hi))]
   cases bA (d.ab.getD i aC)<;>rfl) (fun m=>by simp [ie]) (n:=n) (aH hn (by omega))
 have h1:=fj (R:=R) (L:=k6 n d.ad (fun x=>k x) (ie n d.ab (fun x=>k x) (k true) n 0)) (l:=d.ad) az (B:=0) (P:=bp) (e:=k false) (q:=ie n d.ab (fun x=>k x) (k true) n 0) (by omega)
  (fun m i _ hi=>by
   simp only [k6,bh,aF,hi,zV,bc,zE,zC]
   rw [we hn]
   cases bp (d.ad.getD i az)<;>rfl) (fun m=>by simp [k6]) (n:=n) (aH hn (by omega))
 refine h1.trans ?_
 rw [h2]
 cases List.all d.ad bp<;>cases List.all d.ab bA<;>rfl
theorem cQ {α:Type} {l:List α} {i:Nat} (d:α) (h:i<l.length):l.drop i=l.getD i d::l.drop (i+1):=by
 rw [List.drop_eq_getElem_cons h]; simp [zT,h]
theorem uc {α β:Type} {L:Nat->Int->List β->Option R} {l:List α} (d:α) {f:α->List β} {B C:Nat} {q:List β->Option R} (hl:l.length<=4611686018427387904) (hC:∀ x∈l,(f x).length<=C)
  (hs:∀ m i acc,B<m->i<l.length->acc.length<=C*i->L (m+1) (i:Int) acc=L m (aA ((i:Int)+1)) (acc++f (l.getD i d))) (hq:∀ m acc,L (m+1) (l.length:Int) acc=q acc) :
  ∀ (k m i:Nat) (acc:List β),i+k=l.length->k+B<m->acc.length<=C*i->L m (i:Int) acc=q (acc++(l.drop i).flatMap f)
 | 0,0,i,acc,h1,h2,h3=>by omega
 | 0,m+1,i,acc,h1,h2,h3=>by
  have:i=l.length:=by omega
  subst this; rw [hq]; simp
 | k+1,0,i,acc,h1,h2,h3=>by omega
 | k+1,m+1,i,acc,h1,h2,h3=>by
  have hi:i<l.length:=by omega
  have hx:=hC _ (aU d hi)
  rw [hs m i acc (by omega) hi h3,bL (by omega),uc d hl hC hs hq k m (i+1) _ (by omega) (by omega) (by rw [zK,Nat.mul_add]; omega),cQ d hi,List.flatMap_cons,List.append_assoc]
theorem oC {α β:Type} {L:Nat->Int->List β->Option R} {l:List α} (d:α) {f:α->β} {B:Nat} {q:List β->Option R} (hl:l.length<=4611686018427387904)
  (hs:∀ m i acc,B<m->i<l.length->acc.length<=i->L (m+1) (i:Int) acc=L m (aA ((i:Int)+1)) (acc++[f (l.getD i d)])) (hq:∀ m acc,L (m+1) (l.length:Int) acc=q acc)
  {n:Nat} (hn:l.length+B<n):L n 0 []=q (l.map f):=by
 have:=uc (R:=R) (l:=l) d (f:=fun x=>[f x]) (C:=1) hl (fun x _=>by simp) (fun m i acc h1 h2 h3=>hs m i acc h1 h2 (by omega)) hq l.length n 0 [] (by omega) hn (by simp)
 rw [List.drop_zero,List.nil_append] at this
 refine this.trans ?_
 congr 1
 exact List.map_eq_flatMap.symm
theorem cm {α:Type} {l:List α} {i:Nat} {x:List α} (h:l.length<=i) (hi:i<=2097152) (hx:x.length<=1099507433472):bg (l++x)=true:=bZ (by rw [zK]; omega)
theorem Jo (b:au) (h1:b.ab.length<=cM) (h2:b.bF.length<=cM) (k:au->Option R):uK b k=k b:=by
 have h1:b.ab.length<=2097152:=h1
 have h2:b.bF.length<=2097152:=h2
 simp only [uK,List.nil_append]
 rw [aj (bZ (by omega)),aj (bZ (by omega))]
theorem vW (x:aV) (h:Az x) (k:aV->Option R):ob x k=k x:=by
 have h:x.ay.length<=2097152:=h
 simp only [ob,List.nil_append]
 rw [aj (bZ (by omega))]
theorem vQ (b:Block) (h:b.ah.length<=cM) (k:Block->Option R):mr b k=k b:=by
 have h:b.ah.length<=2097152:=h
 simp only [mr,List.nil_append]
 rw [aj (bZ (by omega))]
theorem oD {n:Nat} (hn:bk<=n) (d:aa) (hd:ja d) (k:aa->Option R):jU n d k=k d:=by
 have l1:d.ad.length<=2097152:=hd.di
 have l2:d.ab.length<=2097152:=hd.db
 simp only [jU]
 rw [Jo _ hd.bb hd.bi]
 have h2:=oC (R:=R) (L:=gK d.ab (fun eM=>k ⟨d.au,d.ad,eM⟩)) (l:=d.ab) aC (f:=id) (B:=0) (q:=fun eM=>k ⟨d.au,d.ad,eM⟩) (by omega)
  (fun m i acc _ hi ha=>by
   simp only [gK,bh,aF,hi,zV,bc,zE,zC]
   rw [vQ _ (hd.pd _ (aU aC hi)).1,aj (cm ha (by omega) (by simp))]; rfl) (fun m acc=>by simp only [gK,Int.lt_irrefl,decide_false,zF]) (n:=n) (aH hn (by omega))
 have h1:=oC (R:=R) (L:=jO d.ad (fun v=>gK d.ab (fun eM=>k ⟨d.au,v,eM⟩) n 0 [])) (l:=d.ad) az (f:=id) (B:=0) (q:=fun v=>gK d.ab (fun eM=>k ⟨d.au,v,eM⟩) n 0 []) (by omega)
  (fun m i acc _ hi ha=>by
   simp only [jO,bh,aF,hi,zV,bc,zE,zC]
   rw [vW _ (hd.ino _ (aU az hi)),aj (cm ha (by omega) (by simp))]; rfl) (fun m acc=>by simp only [jO,Int.lt_irrefl,decide_false,zF]) (n:=n) (aH hn (by omega))
 rw [List.map_id] at h1 h2
 exact h1.trans h2
def nH (d:bG):Prop:=d.Name.size<=cM/\d.ab.length<=cM
structure ej (m:Mem):Prop where
 d:ja m.aa
 dy:m.an.length<=cM
 dp:m.ae.length<=cM
 dep:∀ d∈m.ae,nH d
theorem ee {n:Nat} (hn:bk<=n) (x:Mem) (hx:ej x) (k:Mem->Option R):dB n x k=k x:=by
 have l1:x.an.length<=2097152:=hx.dy
 have l2:x.ae.length<=2097152:=hx.dp
 simp only [dB,List.nil_append]
 rw [oD hn _ hx.d,aj (bZ (by omega))]
 have h2:=oC (R:=R) (L:=jY x.ae (fun v=>k ⟨x.aa,x.an,v,x.Next⟩)) (l:=x.ae) aJ (f:=id) (B:=0) (q:=fun v=>k ⟨x.aa,x.an,v,x.Next⟩) (by omega)
  (fun m i acc _ hi ha=>by
   have hb:(x.ae.getD i aJ).ab.length<=2097152:=(hx.dep _ (aU aJ hi)).2
   simp only [jY,bh,aF,hi,zV,bc,zE,zC,List.nil_append]
   rw [aj (bZ (by omega)),aj (cm ha (by omega) (by simp))]; rfl) (fun m acc=>by simp only [jY,Int.lt_irrefl,decide_false,zF]) (n:=n) (aH hn (by omega))
 rw [List.map_id] at h2
 exact h2
def fG:aa:=⟨⟨List.replicate 16 false,(List.replicate 8 false).set 0 true⟩,(List.replicate 8 (ba 0)).set 0 (ba 2),List.replicate 16 aC⟩
theorem qP {n:Nat} (hn:bk<=n) (k:aa->Option R):od n k=k fG:=by
 simp only [od,mb]
 rw [aj (by rfl)]
 have h2:=oC (R:=R) (L:=kf (fun v=>ey 2 fun i=>aK (aZ 0 v.length) (k ⟨⟨List.replicate 16 false,(List.replicate 8 false).set 0 true⟩,v.set 0 i,List.replicate 16 aC⟩))) (l:=List.replicate 8 ()) () (f:=fun _=>ba 0) (B:=0) (q:=fun v=>ey 2 fun i=>aK (aZ 0 v.length) (k ⟨⟨List.replicate 16 false,(List.replicate 8 false).set 0 true⟩,v.set 0 i,List.replicate 16 aC⟩)) (by decide)
  (fun m i acc _ hi ha=>by
   have hi:i<8:=by simpa using hi
   simp only [kf,jz]
   rw [show decide ((i:Int)<8)=true by simp; omega,bH,aj (cm ha (by omega) (by simp))]) (fun m acc=>by simp [kf]) (n:=n) (aH hn (by decide))
 refine h2.trans ?_
 rw [jz,aj (by rfl)]
 rfl
theorem yU (k:Block->Option R):sT k=k ⟨true,List.replicate 4 aq,eS⟩:=rfl
def CC (d:aa):Mem:=⟨d,List.replicate 21 false,[],1⟩
theorem MV {n:Nat} (hn:bk<=n) (d:aa) (hd:ja d) (k:Mem->Option R):wK n d k=k (CC d):=by
 simp only [wK]
 rw [oD hn d hd]; rfl
theorem OT (n:Int):0<=IntKind.u8.wrap n/\IntKind.u8.wrap n<256:=by
 simp only [IntKind.wrap,IntKind.signed,IntKind.bits]
 simp
 omega
theorem n5 (n:Int):kt (IntKind.u8.wrap n)=true:=by
 have:=OT n
 simp only [kt,zB,zD]; exact this
def NN (n:Int):UInt8:=UInt8.ofNat (IntKind.u8.wrap n).toNat
theorem xy (n:Int):UInt8.ofNat (IntKind.u8.wrap n).toNat=NN n:=rfl
def Ep:List Bool->Nat->Nat
 | [],_=>0
 | b::l,w=>(bif b then w else 0)+Ep l (2*w)
def ru (l:List Bool):Int:=Ep l 1
theorem qI (l:List Bool) (hl:l.length<=60) (q:Int->Option R):∀ (k m i x w:Nat),i+k=l.length->k<m->x<w->w*2 ^ k<=1152921504606846976 ->
  iq l q m (x:Int) (w:Int) (i:Int)=q ((x+Ep (l.drop i) w:Nat):Int)
 | 0,0,i,x,w,h1,h2,h0,h3=>by omega
 | 0,m+1,i,x,w,h1,h2,h0,h3=>by
  have:i=l.length:=by omega
  subst this
  simp [iq,Ep]
 | k+1,0,i,x,w,h1,h2,h0,h3=>by omega
 | k+1,m+1,i,x,w,h1,h2,h0,h3=>by
  have hi:i<l.length:=by omega
  have hp:0<2 ^ k:=Nat.pos_of_ne_zero (by simp)
  have hw:w*2 ^ (k+1)=2*w*2 ^ k:=by rw [Nat.pow_succ,Nat.mul_comm 2 w,Nat.mul_assoc,Nat.mul_comm 2]
  have hw2:2*w<=2*w*2 ^ k:=Nat.le_mul_of_pos_right _ hp
  simp only [iq,bh,aF,hi,zV,zE,bc,zC]
  rw [cQ false hi,show (2:Int)*(w:Int)=((2*w:Nat):Int) by omega,ei (by omega),bL (by omega),← Int.natCast_add,ei (by omega)]
  cases hb:l.getD i false with
  | true =>
   simp only [zE,Ep]
   rw [qI l hl q k m (i+1) (x+w) (2*w) (by omega) (by omega) (by omega) (by omega),← Nat.add_assoc]
  | false =>
   simp only [zF,Ep,Nat.zero_add]
   rw [qI l hl q k m (i+1) x (2*w) (by omega) (by omega) (by omega) (by omega)]
theorem vK {n:Nat} (hn:bk<=n) (l:List Bool) (hl:l.length<=60) (k:Int->Option R):n7 n l k=k (IntKind.u8.wrap (ru l)):=by
 simp only [n7]
 have hp:(2:Nat) ^ l.length<=2 ^ 60:=Nat.pow_le_pow_right (by decide) hl
 have h2:(2:Nat) ^ 60=1152921504606846976:=rfl
 have:=qI (R:=R) l hl (fun xn=>k (IntKind.u8.wrap xn)) l.length n 0 0 1 (by omega) (aH hn (by omega)) (by omega) (by omega)
 rw [List.drop_zero,Nat.zero_add] at this
 exact this
def Cc (b:au):ByteArray:=bif p9 b then zm [NN (ru (b.ab.take 8)),NN (ru (b.ab.drop 8)),NN (ru b.bF)] else eS
theorem HX {n:Nat} (hn:bk<=n) (b:au) (k:ByteArray->Bool->Option R):qJ n b k=k (Cc b) (p9 b):=by
 simp only [qJ,Ej,Cc]
 cases hb:p9 b with
 | false=>rfl
 | true =>
  simp only [p9,zB,beq_iff_eq] at hb
  obtain ⟨h1,h2⟩:=hb
  simp only [zM,zF,zE]
  rw [aj (by simp [qh,h1]),vK hn _ (by simp [sub]; omega),aj (by simp [qh,h1]),vK hn _ (by simp [sub]; omega),vK hn _ (by omega)]
  simp only [xy,n5,Bool.and_true,bc]
  have e1:sub b.ab 0 8=b.ab.take 8:=by simp [sub]
  have e2:sub b.ab 8 (b.ab.length-8)=b.ab.drop 8:=by
   simp only [sub]; rw [List.take_of_length_le (by simp)]
  rw [e1,e2]
def oh (x:aV):ByteArray:=bif bp x then zm [NN x.Kind,NN x.Links,NN (x.ay.getD 0 0),NN (x.ay.getD 1 0)] else eS
theorem jD {x:aV} (h:bp x=true):x.ay.length=2:=by
 simp only [bp,zB,beq_iff_eq] at h
 exact h.2.2.1
theorem wD {n:Nat} (hn:bk<=n) (x:aV) (k:ByteArray->Bool->Option R):mR n x k=k (oh x) (bp x):=by
 simp only [mR,we hn,oh]
 cases hb:bp x with
 | false=>rfl
 | true =>
  have hl:=jD hb
  simp only [zM,zF,zE,xy,n5,Bool.and_true,bc]
  rw [aj (by simp [aZ,hl]),aj (by simp [aZ,hl])]
def xg:Nat->Nat->List UInt8×Nat
 | 0,x=>([],x)
 | f+1,x=>bif decide (127<x) then (NN (x % 128+128:Nat)::(xg f (x/128)).1,(xg f (x/128)).2) else ([],x)
def Jy (n:Nat):ByteArray:=zm ((xg 9 n).1++[NN (xg 9 n).2])
theorem Bi:∀ f x,(xg f x).1.length<=f
 | 0,x=>by simp [xg]
 | f+1,x=>by
  simp only [xg]
  cases decide (127<x) with
  | true=>simp only [zE,zR]; have:=Bi f (x/128); omega
  | false=>simp
theorem I6 {f x:Nat} (h:x<=127):xg f x=([],x):=by
 cases f with
 | zero=>rfl
 | succ f=>simp only [xg]; rw [decide_eq_false (by omega)]; rfl
theorem ze (Q:Int->List UInt8->Option R):∀ (f x m:Nat) (acc:List UInt8),x<128 ^ (f+1)->x<=4611686018427387904->f<m->acc.length+f<=100 ->
  m6 Q m (x:Int) acc=Q ((xg f x).2:Int) (acc++(xg f x).1)
 | f,x,0,acc,h1,hb,h2,h3=>by omega
 | f,x,m+1,acc,h1,hb,h2,h3=>by
  simp only [m6,n5,Bool.and_true,bc]
  have hd:decide ((127:Int)<(x:Int))=decide (127<x):=decide_eq_decide.2 (by omega)
  rw [hd]
  by_cases hx:127<x
  ·cases f with
   | zero=>simp at h1; omega
   | succ f =>
    rw [decide_eq_true hx,bH,Int.tmod_eq_emod_of_nonneg (by omega),Int.tdiv_eq_ediv_of_nonneg (by omega),show (x:Int) % 128+128=((x % 128+128:Nat):Int) by omega,show (x:Int)/128=((x/128:Nat):Int) by omega,
     ei (by omega),ei (by omega),xy,aj (bZ (by rw [zK,zL]; omega)),
     ze Q f (x/128) m _ (by rw [Nat.div_lt_iff_lt_mul (by decide),← Nat.pow_succ]; exact h1) (by omega) (by omega) (by rw [zK,zL]; omega),List.append_assoc]
    simp only [xg,decide_eq_true hx,zE]
    rfl
  ·rw [decide_eq_false hx,bn,I6 (by omega)]
   simp
theorem DP {n:Nat} (hn:bk<=n) (x:Nat) (hx:x<=1152921504606846976) (k:ByteArray->Option R):tE n x k=k (Jy x):=by
 simp only [tE,Jy]
 rw [ze _ 9 x n [] (by omega) (by omega) (aH hn (by omega)) (by simp)]
 have:=Bi 9 x
 simp only [n5,Bool.and_true,bc,List.nil_append,xy]
 rw [aj (bZ (by rw [zK,zL]; omega))]
def Lh (s:Slot):ByteArray:=zm [NN s.Ino]++Jy s.Name.size++s.Name
def JP (a:ByteArray) (l:List Slot):ByteArray:=l.foldl (fun a s=>a++Lh s) a
def oe (b:Block):ByteArray:=bif bA b then (bif b.cf then JP (S [100]) b.ah else S [116]++b.Text) else eS
theorem AK (a b c:ByteArray):(a++b)++c=a++(b++c):=by
 apply ByteArray.ext
 simp [ByteArray.data_append,Array.append_assoc]
theorem Ec (x:Nat):(Jy x).size<=10:=by
 have:=Bi 9 x
 show ((xg 9 x).1++[NN (xg 9 x).2]).length<=10
 rw [zK,zL]; omega
theorem xP (l:List UInt8):(zm l).size=l.length:=rfl
theorem JE (s:Slot):(Lh s).size<=11+s.Name.size:=by
 have:=Ec s.Name.size
 simp only [Lh,ByteArray.size_append,xP,zL]; omega
theorem eY {s:ByteArray} (h:bN s=true):1<=s.size/\s.size<=6:=by
 simp only [bN,within,zB,zD] at h
 omega
theorem JL {l:List Slot} {i:Nat} (h:rY l i=true):(l.getD i aq).Name.size<=6:=by
 simp only [rY,Bool.or_eq_true,zB,beq_iff_eq] at h
 rcases h with ⟨h,_⟩ | ⟨⟨h,_⟩,_⟩
 ·rw [h]; decide
 ·exact (eY h).2
theorem mz {n:Nat} {p:Nat->Bool} (h:(List.range' 0 n).all p=true) {i:Nat} (hi:i<n):p i=true:=by
 rw [List.all_eq_true] at h
 exact h i (by simp [List.mem_range']; omega)
theorem wE {n:Nat} (hn:bk<=n) (b:Block) (hb:ur b) (k:ByteArray->Bool->Option R):ig n b k=k (oe b) (bA b):=by
 simp only [ig,CD hn b hb,oe]
 cases xV:bA b with
 | false=>rfl
 | true =>
  simp only [zM,zF,zE]
  cases hd:b.cf with
  | false =>
   have h2:b.Text.size<=2097152:=hb.2.1
   simp only [zN,zE,zF]
   rw [aj (iP (by have:(S [116]).size=1:=rfl; omega))]
  | true =>
   simp only [bA,hd,zE,zB,beq_iff_eq] at xV
   obtain ⟨⟨hl,_⟩,hs⟩:=xV
   simp only [zM,zF,zE]
   have loop:∀ (j m i:Nat) (a:ByteArray),i+j=4->j<m->a.size<=1+17*i->g6 n b.ah (fun s=>k s true) m a (i:Int)=k (JP a (b.ah.drop i)) true:=by
    intro j
    induction j with
    | zero =>
     intro m i a h1 h2 h3
     have:i=4:=by omega
     subst this
     cases m with
     | zero=>omega
     | succ m=>rw [List.drop_of_length_le (by omega)]; simp [g6,JP]
    | succ j ih =>
     intro m i a h1 h2 h3
     cases m with
     | zero=>omega
     | succ m =>
      have hi:i<b.ah.length:=by omega
      have mH:=JL (mz hs (i:=i) (by omega))
      have hv:=Ec (b.ah.getD i aq).Name.size
      have qd:=JE (b.ah.getD i aq)
      simp only [g6,aF,hi,zV,bc,zC,n5,Bool.and_true,xy]
      rw [show decide ((i:Int)<4)=true by simp; omega,bH,DP hn _ (by omega),aj (iP (by rw [xP,zL]; omega)),
       aj (iP (by rw [ByteArray.size_append,xP,zL]; omega)),aj (iP (by rw [ByteArray.size_append,ByteArray.size_append,xP,zL]; omega)),bL (by omega),
       cQ aq hi,AK,AK,← AK (zm _)]
      exact ih m (i+1) _ (by omega) (by omega) (by
       show (a++Lh (b.ah.getD i aq)).size<=_
       rw [ByteArray.size_append]; omega)
   have:=loop 4 n 0 (S [100]) rfl (aH hn (by omega)) (by decide)
   rw [List.drop_zero] at this
   exact this
def ai (d:aa) (i:Int):aV:=d.ad.getD (i-1).toNat az
def aN (d:aa) (p:Int):Block:=d.ab.getD (p-1).toNat aC
theorem ak {x a b:Int}:within x a b=true↔a<=x/\x<=b:=by simp [within]
theorem bO {x:Int} (h1:0<=x) (h2:x<=9223372036854775807):aA (x-1)=x-1:=bT (by omega) (by omega)
theorem bz {x:Int} {n:Nat} (h1:1<=x) (h2:x<=n):aZ (x-1) n=true:=by
 simp only [aZ,zB,zD]; omega
def cV (d:aa) (p:Int):Block×Bool:=bif within p 1 d.ab.length then (aN d p,true) else (aC,false)
theorem zc (d:aa) (hd:d.ab.length<=cM) (p:Int) (k:Block->Bool->Option R):oy d p k=k (cV d p).1 (cV d p).2:=by
 have hd:d.ab.length<=2097152:=hd
 simp only [oy,jh,cV]
 cases h:within p 1 d.ab.length with
 | false=>rfl
 | true =>
  rw [ak] at h
  simp only [zM,zF,zE]
  rw [bO (by omega) (by omega),aj (bz h.1 h.2)]
  rfl
def has (l:List Int) (x:Int):Bool:=l.any (·==x)
theorem AE {α:Type} (P:α->Bool) (l:List α):l.all (fun x=> !P x)= !l.any P:=by
 induction l with
 | nil=>rfl
 | cons x l ih=>simp only [List.all_cons,List.any_cons,ih,Bool.not_or]
theorem yF {n:Nat} (hn:bk<=n) (l:List Int) (hl:l.length<=cM) (x:Int) (k:Bool->Option R):s7 n l x k=k (has l x):=by
 have xX:l.length<=2097152:=hl
 have:=fj (R:=R) (L:=k7 x l (fun eH=>k eH) (k false)) (l:=l) 0 (B:=0) (P:=fun y=> !(y==x)) (e:=k true) (q:=k false) (by omega)
  (fun m i _ hi=>by
   simp only [k7,bh,aF,hi,zV,bc,zE,zC]
   cases l.getD i 0==x<;>rfl) (fun m=>by simp [k7]) (n:=n) (aH hn (by omega))
 refine this.trans ?_
 rw [AE (fun y=>y==x),has]
 cases l.any fun y=>y==x<;>rfl
def firstFree (l:List Bool):Int:=match bB (fun b=> !b) l with | .ofNat j=>((j+1:Nat):Int) | _=>0
theorem xL {n:Nat} (hn:bk<=n) (l:List Bool) (hl:l.length<=cM) (k:Int->Option R):pA n l k=k (firstFree l):=by
 have xX:l.length<=2097152:=hl
 have:=uq (R:=R) (L:=g7 l (fun x=>k x) (k 0)) (len:=l.length) (B:=0) (p:=fun i=> !(l.getD i false)) (e:=fun i=>k (aA (i+1))) (q:=k 0) (by omega)
  (fun m i _ hi=>by
   simp only [g7,bh,aF,hi,zV,bc,zE,zC]) (fun m=>by simp [g7]) l.length n 0 (by omega) (aH hn (by omega))
 refine this.trans ?_
 have h2:=vJ (fun b:Bool=> !b) false l l 0 rfl (by omega)
 simp only [Nat.sub_zero,Nat.zero_add] at h2
 have h3:∀ j,List.find? (fun i=> !l.getD i false) (List.range' 0 l.length)=some j->j<l.length:=by
  intro j hj
  have:=List.mem_of_find?_eq_some hj
  simp [List.mem_range'] at this
  omega
 rcases gg (fun b:Bool=> !b) l with h | ⟨j,h,hj⟩
 ·rw [h] at h2
  cases hf:List.find? (fun i=> !l.getD i false) (List.range' 0 l.length) with
  | none=>simp only [firstFree,h]
  | some j=>rw [hf] at h2; simp only at h2; omega
 ·rw [h] at h2
  cases hf:List.find? (fun i=> !l.getD i false) (List.range' 0 l.length) with
  | none=>rw [hf] at h2; simp only at h2; omega
  | some j' =>
   rw [hf] at h2
   have h4:(j':Int)=(j:Int):=h2
   have:j'=j:=by omega
   subst this
   simp only [firstFree,h]
   rw [bL (by omega)]
theorem o9 (l:List Bool):(firstFree l=0/\l.all id=true)\/∃ j:Nat,firstFree l=j+1/\j<l.length/\l.getD j false=false/\(l.take j).all id=true:=by
 simp only [firstFree]
 have key:∀ l:List Bool,(bB (fun b=> !b) l= -1/\l.all id=true)\/∃ j:Nat,bB (fun b=> !b) l=j/\j<l.length/\l.getD j false=false/\(l.take j).all id=true:=by
  intro l
  induction l with
  | nil=>exact .inl ⟨rfl,rfl⟩
  | cons x l ih =>
   simp only [bB]
   cases x with
   | false=>exact .inr ⟨0,rfl,by simp,rfl,rfl⟩
   | true =>
    rcases ih with ⟨h,h2⟩ | ⟨j,h,h2,h3,h4⟩
    ·rw [h]; exact .inl ⟨rfl,by simpa using h2⟩
    ·rw [h]; exact .inr ⟨j+1,rfl,by simp; omega,by simpa using h3,by simpa using h4⟩
 rcases key l with ⟨h,h2⟩ | ⟨j,h,h2⟩
 ·rw [h]; exact .inl ⟨rfl,h2⟩
 ·rw [h]; exact .inr ⟨j,rfl,h2⟩
def aO (i:Int):Int:=bif within i 1 8 then 1+(i-1)/2 else -1
theorem gB (i:Int) (k:Int->Option R):dO i k=k (aO i):=by
 simp only [dO,jh,aO]
 cases h:within i 1 8 with
 | false=>rfl
 | true =>
  rw [ak] at h
  simp only [zM,zF,zE]
  rw [bT (n:=i-1) (by omega) (by omega),Int.tdiv_eq_ediv_of_nonneg (by omega),bT (n:=(i-1)/2) (by omega) (by omega),bT (by omega) (by omega)]
def aG (p:Int):Int:=bif within p 1 16 then p+4 else -1
theorem eB (p:Int) (k:Int->Option R):bY p k=k (aG p):=by
 simp only [bY,jh,aG]
 cases h:within p 1 16 with
 | false=>rfl
 | true =>
  rw [ak] at h
  simp only [zM,zF,zE]
  rw [bT (by omega) (by omega)]
def mark (u:Int) (m:Mem):Mem:=bif decide (0<=u)&&decide (u<m.an.length) then { m with an:=m.an.set u.toNat true } else m
theorem dq (u:Int) (m:Mem) (k:Mem->Option R):ca u m k=k (mark u m):=by
 simp only [ca,mark]
 cases h:decide (0<=u)&&decide (u<(m.an.length:Int)) with
 | false=>rfl
 | true =>
  simp only [zE]
  rw [aj (by simpa [aZ] using h)]
def aX (m:Mem):Mem×Int:=bif firstFree m.aa.au.ab==0 then (m,0) else
 (mark 0 { m with aa:={ m.aa with au:={ m.aa.au with ab:=m.aa.au.ab.set (firstFree m.aa.au.ab-1).toNat true } } },firstFree m.aa.au.ab)
def aT (m:Mem):Mem×Int:=bif firstFree m.aa.au.bF==0 then (m,0) else
 (mark 0 { m with aa:={ m.aa with au:={ m.aa.au with bF:=m.aa.au.bF.set (firstFree m.aa.au.bF-1).toNat true } } },firstFree m.aa.au.bF)
theorem kF (l:List Bool) (h:(firstFree l==0)=false):1<=firstFree l/\firstFree l<=l.length:=by
 rcases o9 l with ⟨h1,_⟩ | ⟨j,h1,h2,_⟩
 ·rw [h1] at h; cases h
 ·omega
theorem wY {n:Nat} (hn:bk<=n) (m:Mem) (hm:ej m) (k:Mem->Int->Option R):mT n m k=k (aX m).1 (aX m).2:=by
 have hl:m.aa.au.ab.length<=2097152:=hm.d.bb
 simp only [mT,aX]
 rw [ee hn m hm,xL hn _ hm.d.bb]
 cases h:firstFree m.aa.au.ab==0 with
 | true=>rfl
 | false =>
  have:=kF _ h
  simp only [zF]
  rw [bO (by omega) (by omega),aj (bz this.1 this.2),dq]
  simp only [mark]
  cases decide ((0:Int)<=0)&&decide ((0:Int)<(m.an.length:Int))<;>rfl
theorem JD {n:Nat} (hn:bk<=n) (m:Mem) (hm:ej m) (k:Mem->Int->Option R):uA n m k=k (aT m).1 (aT m).2:=by
 have hl:m.aa.au.bF.length<=2097152:=hm.d.bi
 simp only [uA,aT]
 rw [ee hn m hm,xL hn _ hm.d.bi]
 cases h:firstFree m.aa.au.bF==0 with
 | true=>rfl
 | false =>
  have:=kF _ h
  simp only [zF]
  rw [bO (by omega) (by omega),aj (bz this.1 this.2),dq]
  simp only [mark]
  cases decide ((0:Int)<=0)&&decide ((0:Int)<(m.an.length:Int))<;>rfl
def dW (m:Mem):Bool:=decide (m.ae.length<40)&&within m.Next 1 99999
def b8 (m:Mem) (d:bG):Mem×Int:=bif dW m then ({ m with ae:=m.ae++[{ d with Id:=m.Next }],Next:=m.Next+1 },m.Next) else (m,0)
theorem nX {n:Nat} (hn:bk<=n) (m:Mem) (hm:ej m) (d:bG) (hd:d.ab.length<=cM) (k:Mem->Int->Option R):hZ n m d k=k (b8 m d).1 (b8 m d).2:=by
 have z6:d.ab.length<=2097152:=hd
 have V8:m.ae.length<=2097152:=hm.dp
 simp only [hZ,b8,dW,jh]
 rw [ee hn m hm]
 have e1:decide ((40:Int)<=(m.ae.length:Int))= !decide (m.ae.length<40):=by
  by_cases h:m.ae.length<40<;>simp [h]<;>omega
 rw [e1]
 cases h1:decide (m.ae.length<40) with
 | false=>rfl
 | true =>
  cases h2:within m.Next 1 99999 with
  | false=>rfl
  | true =>
   rw [ak] at h2
   simp only [zM,zN,Bool.or_false,zF,zE,Bool.and_true,List.nil_append]
   rw [aj (bZ (by omega)),aj (bZ (by rw [zK,zL]; omega)),bT (by omega) (by omega)]
def bd (m:Mem) (id:Int):Mem:={ m with ae:=m.ae.filter fun d=> !(d.Id==id) }
def kG {α β:Type} (P:α->Bool) (f:α->β) (z:β):List α->β
 | []=>z
 | x::l=>bif P x then f x else kG P f z l
theorem CE {α β:Type} (P:α->Bool) (f:α->β) (z:β) (d:α) (l:List α):∀ (s:List α) (i:Nat),s=l.drop i->i<=l.length ->
  (match (List.range' i (l.length-i)).find? (fun j=>P (l.getD j d)) with | some j=>f (l.getD j d) | none=>z)=kG P f z s
 | [],i,h,hi=>by
  have:l.length<=i:=by
   have:=congrArg List.length h; simp at this; omega
  rw [show l.length-i=0 by omega]; rfl
 | x::s,i,h,hi=>by
  have fW:i<l.length:=by
   have:=congrArg List.length h; simp at this; omega
  have hx:l.getD i d=x:=by
   have:=congrArg (fun l=>l[0]?) h
   simp only [List.getElem?_cons_zero,List.getElem?_drop,Nat.add_zero] at this
   simp [zT,← this]
  have hs:s=l.drop (i+1):=by
   have:=congrArg List.tail h
   simpa [List.tail_drop] using this
  obtain ⟨k,hk⟩:∃ k,l.length-i=k+1:=⟨l.length-i-1,by omega⟩
  rw [hk,List.range'_succ,List.find?_cons,hx]
  simp only [kG]
  cases hp:P x with
  | true=>simp only [zE,hx]
  | false =>
   have ih:=CE P f z d l s (i+1) hs (by omega)
   rw [show l.length-(i+1)=k by omega] at ih
   simp only [zF]
   exact ih
theorem Ce {α:Type} {L:Nat->Int->Option R} {l:List α} (d:α) {B:Nat} {P:α->Bool} {e:α->Option R} {q:Option R} (hl:l.length<=4611686018427387904)
  (hs:∀ m i,B<m->i<l.length->L (m+1) (i:Int)=bif P (l.getD i d) then e (l.getD i d) else L m (aA ((i:Int)+1))) (hq:∀ m,L (m+1) (l.length:Int)=q)
  {n:Nat} (hn:l.length+B<n):L n 0=kG P e q l:=by
 have:=uq (R:=R) (p:=fun i=>P (l.getD i d)) (e:=fun i=>e (l.getD i.toNat d)) hl (fun m i h1 h2=>by rw [zC]; exact hs m i h1 h2) hq l.length n 0 (by omega) hn
 refine this.trans ?_
 rw [← CE P e q d l l 0 rfl (by omega),Nat.sub_zero]
 cases List.find? _ _ with
 | none=>rfl
 | some j=>simp
theorem ya {α β γ:Type} (k:β->γ) (P:α->Bool) (f:α->β) (z:β):∀ l:List α,kG P (fun x=>k (f x)) (k z) l=k (kG P f z l)
 | []=>rfl
 | x::l=>by simp only [kG,ya k P f z l]; cases P x<;>rfl
def jV (d:bG):Bool:=((d.Kind==2)||(d.Kind==3))||(d.Kind==4)
def ga (m:Mem) (block slot:Int):Int:=kG (fun d=>(jV d&&(d.Block==block))&&(d.Slot==slot)) (·.Id) 0 m.ae
theorem Ch {n:Nat} (hn:bk<=n) (m:Mem) (hm:m.ae.length<=cM) (block slot:Int) (k:Int->Option R):tV n m block slot k=k (ga m block slot):=by
 have J5:m.ae.length<=2097152:=hm
 have:=Ce (R:=R) (L:=l8 block slot m.ae (fun x=>k x) (k 0)) (l:=m.ae) aJ (B:=0) (P:=fun d=>(jV d&&(d.Block==block))&&(d.Slot==slot)) (e:=fun d=>k d.Id) (q:=k 0) (by omega)
  (fun m i _ hi=>by
   simp only [l8,yN,bh,aF,hi,zV,bc,zE,zC,jV]) (fun m=>by simp [l8]) (n:=n) (aH hn (by omega))
 exact this.trans (ya k _ _ _ _)
def iw (m:Mem) (id:Int):Int:=kG (fun d=>d.Id==id) (·.Kind) 0 m.ae
theorem BZ {n:Nat} (hn:bk<=n) (id:Int) (m:Mem) (hm:m.ae.length<=cM) (k:Int->Mem->Option R):tZ n id m k=k (iw m id) m:=by
 have J5:m.ae.length<=2097152:=hm
 have:=Ce (R:=R) (L:=jM id m.ae (fun x=>k x m) (k 0 m)) (l:=m.ae) aJ (B:=0) (P:=fun d=>d.Id==id) (e:=fun d=>k d.Kind m) (q:=k 0 m) (by omega)
  (fun m i _ hi=>by
   simp only [jM,bh,aF,hi,zV,bc,zE,zC]) (fun m=>by simp [jM]) (n:=n) (aH hn (by omega))
 exact this.trans (ya (fun x=>k x m) _ _ _ _)
theorem pJ {α:Type} {L:Nat->Int->List α->Option R} {l:List α} (d:α) {P:α->Bool} {B:Nat} {q:List α->Option R} (hl:l.length<=4611686018427387904)
  (hs:∀ m i acc,B<m->i<l.length->acc.length<=i->L (m+1) (i:Int) acc=bif P (l.getD i d) then L m (aA ((i:Int)+1)) (acc++[l.getD i d]) else L m (aA ((i:Int)+1)) acc)
  (hq:∀ m acc,L (m+1) (l.length:Int) acc=q acc) {n:Nat} (hn:l.length+B<n):L n 0 []=q (l.filter P):=by
 have:=uc (R:=R) (l:=l) d (f:=fun x=>bif P x then [x] else []) (C:=1) hl (fun x _=>by cases P x<;>simp) (fun m i acc h1 h2 h3=>by
  rw [hs m i acc h1 h2 (by omega)]
  cases P (l.getD i d) with
  | true=>rfl
  | false=>simp only [zF,List.append_nil]) hq l.length n 0 [] (by omega) hn (by simp)
 rw [List.drop_zero,List.nil_append] at this
 refine this.trans ?_
 congr 1
 clear this hn hq hs hl
 induction l with
 | nil=>rfl
 | cons x l ih =>
  rw [List.flatMap_cons,ih,List.filter_cons]
  cases P x<;>rfl
theorem oU {n:Nat} (hn:bk<=n) (m:Mem) (hm:ej m) (id:Int) (k:Mem->Option R):kU n m id k=k (bd m id):=by
 have J5:m.ae.length<=2097152:=hm.dp
 simp only [kU]
 rw [ee hn m hm]
 have:=pJ (R:=R) (L:=iz id m.ae (fun list=>k ⟨m.aa,m.an,list,m.Next⟩)) (l:=m.ae) aJ (P:=fun d=> !(d.Id==id)) (B:=0) (q:=fun list=>k ⟨m.aa,m.an,list,m.Next⟩) (by omega)
  (fun m i acc _ hi ha=>by
   simp only [iz,bh,aF,hi,zV,bc,zE,zC]
   rw [aj (cm ha (by omega) (by simp))]) (fun m acc=>by simp [iz]) (n:=n) (aH hn (by omega))
 exact this
def cG (m:Mem) (d:bG):Bool :=
 bif (d.Kind==1)||(d.Kind==6) then decide (0<d.Block)&&((ai m.aa d.Ino).ay.getD d.Ptr.toNat 0==d.Block)
 else bif (d.Kind==2)||(d.Kind==3) then (decide (0<d.Block)&&(aN m.aa d.Block).cf)&&(((aN m.aa d.Block).ah.getD d.Slot.toNat aq).Ino==d.Ino)
 else bif d.Kind==4 then (decide (0<d.Block)&&(aN m.aa d.Block).cf)&&bN d.Name else true
def bJ (m:Mem) (d:bG):Bool:=within d.Id 1 (m.Next-1)&&(within d.Kind 1 6&&(within d.Ino 1 8&&(within d.Ptr 0 1&&(within d.Block 0 16&&(within d.Slot 0 3&&within d.bx 0 (m.Next-1))))))
def nF (m:Mem) (i:Nat):Bool:=bJ m (m.ae.getD i aJ)&&((m.ae.getD i aJ).ab.all (fun p=>within p 1 16)&&((List.range' 0 i).all (fun j=> !((m.ae.getD j aJ).Id==(m.ae.getD i aJ).Id))&&cG m (m.ae.getD i aJ)))
def fY (m:Mem):Bool:=(lz m.aa&&(m.an.length==21&&(decide (m.ae.length<=40)&&within m.Next 1 100000)))&&(List.range' 0 m.ae.length).all (nF m)
structure lH (d:aa):Prop where
 bb:d.au.ab.length=16
 bi:d.au.bF.length=8
 di:d.ad.length=8
 db:d.ab.length=16
 ino:∀ x∈d.ad,bp x=true
 pd:∀ b∈d.ab,bA b=true
theorem kK {d:aa}:lz d=true↔lH d:=by
 simp only [lz,p9,zB,beq_iff_eq,List.all_eq_true]
 exact ⟨fun ⟨⟨⟨h1,h2⟩,h3,h4⟩,h5,h6⟩=>⟨h1,h2,h3,h4,h5,h6⟩,fun h=>⟨⟨⟨h.bb,h.bi⟩,h.di,h.db⟩,h.ino,h.pd⟩⟩
theorem lH.sU {d:aa} (h:lH d) {i:Int} (h1:1<=i) (h2:i<=8):bp (ai d i)=true:=h.ino _ (aU az (by rw [h.di]; omega))
theorem lH.nM {d:aa} (h:lH d) {p:Int} (h1:1<=p) (h2:p<=16):bA (aN d p)=true:=h.pd _ (aU aC (by rw [h.db]; omega))
theorem lH.sd {d:aa} (h:lH d) {i:Int} (h1:1<=i) (h2:i<=8):(ai d i).ay.length=2:=jD (h.sU h1 h2)
theorem mN {b:Block} (h:bA b=true) (hd:b.cf=true):b.ah.length=4:=by
 simp only [bA,hd,zE,zB,beq_iff_eq] at h
 exact h.1.1
theorem Hx {n:Nat} (hn:bk<=n) (m:Mem) (hd:lH m.aa) (el:bG) (mH:el.Name.size<=cM) (hK:1<=el.Kind/\el.Kind<=6) (hI:1<=el.Ino/\el.Ino<=8) (hP:0<=el.Ptr/\el.Ptr<=1) (hB:0<=el.Block/\el.Block<=16) (hS:0<=el.Slot/\el.Slot<=3)
  (T:(Bool->Option R)->Option R) (k:Bool->Option R)
  (h1:el.Kind=1\/el.Kind=6->T k=aK (!(decide (0<el.Block))||(aZ (aA (el.Ino-1)) m.aa.ad.length)) (aK (!(decide (0<el.Block))||(aZ el.Ptr (((m.aa.ad.getD ((aA (el.Ino-1)).toNat) az).ay).length))) (k ((decide (0<el.Block))&&((((m.aa.ad.getD ((aA (el.Ino-1)).toNat) az).ay).getD el.Ptr.toNat 0)==el.Block)))))
  (h2:el.Kind=2\/el.Kind=3->T k=aK (!(decide (0<el.Block))||(aZ (aA (el.Block-1)) m.aa.ab.length)) (aK (!((decide (0<el.Block))&&((m.aa.ab.getD ((aA (el.Block-1)).toNat) aC).cf))||(aZ (aA (el.Block-1)) m.aa.ab.length))
   (aK (!((decide (0<el.Block))&&((m.aa.ab.getD ((aA (el.Block-1)).toNat) aC).cf))||(aZ el.Slot (((m.aa.ab.getD ((aA (el.Block-1)).toNat) aC).ah).length)))
   (k (((decide (0<el.Block))&&((m.aa.ab.getD ((aA (el.Block-1)).toNat) aC).cf))&&(((((m.aa.ab.getD ((aA (el.Block-1)).toNat) aC).ah).getD el.Slot.toNat aq).Ino)==el.Ino))))))
  (h4:el.Kind=4->T k=aK (!(decide (0<el.Block))||(aZ (aA (el.Block-1)) m.aa.ab.length)) (ky n el.Name fun r =>
   k (((decide (0<el.Block))&&((m.aa.ab.getD ((aA (el.Block-1)).toNat) aC).cf))&&(bif (decide (0<el.Block))&&((m.aa.ab.getD ((aA (el.Block-1)).toNat) aC).cf) then r else false))))
  (h5:el.Kind=5->T k=k true):T k=k (cG m el):=by
 have wi:aA (el.Ino-1)=el.Ino-1:=bO (by omega) (by omega)
 have wb:aA (el.Block-1)=el.Block-1:=bO (by omega) (by omega)
 have ri:aZ (el.Ino-1) m.aa.ad.length=true:=bz hI.1 (by rw [hd.di]; omega)
 have Wi:(ai m.aa el.Ino).ay.length=2:=hd.sd hI.1 hI.2
 have rp:aZ el.Ptr (ai m.aa el.Ino).ay.length=true:=by rw [Wi]; simp only [aZ,zB,zD]; omega
 have rb:decide (0<el.Block)=true->aZ (el.Block-1) m.aa.ab.length=true:=fun h=>bz (of_decide_eq_true h) (by rw [hd.db]; omega)
 have rb':(!(decide (0<el.Block))||aZ (el.Block-1) m.aa.ab.length)=true:=by
  cases h:decide (0<el.Block) with
  | false=>rfl
  | true=>rw [rb h]; rfl
 have rs:(!((decide (0<el.Block))&&(aN m.aa el.Block).cf)||aZ el.Slot (aN m.aa el.Block).ah.length)=true:=by
  cases h:decide (0<el.Block) with
  | false=>rfl
  | true =>
   cases Im:(aN m.aa el.Block).cf with
   | false=>rfl
   | true =>
    rw [mN (hd.nM (of_decide_eq_true h) hB.2) Im]
    simp only [aZ,Bool.and_true,zM,Bool.false_or,zB,zD]; omega
 have rb2:(!((decide (0<el.Block))&&(aN m.aa el.Block).cf)||aZ (el.Block-1) m.aa.ab.length)=true:=by
  cases h:decide (0<el.Block) with
  | false=>rfl
  | true=>rw [rb h]; simp
 rcases show el.Kind=1\/el.Kind=2\/el.Kind=3\/el.Kind=4\/el.Kind=5\/el.Kind=6 by omega with h | h | h | h | h | h
 ·rw [h1 (.inl h),wi]
  simp only [cG,h]
  rw [ri,Bool.or_true,bc]
  exact (aj (by show (!_||aZ el.Ptr (ai m.aa el.Ino).ay.length)=true; rw [rp,Bool.or_true])).trans rfl
 ·rw [h2 (.inl h),wb]
  simp only [cG,h]
  rw [rb',bc]
  exact (aj rb2).trans ((aj rs).trans rfl)
 ·rw [h2 (.inr h),wb]
  simp only [cG,h]
  rw [rb',bc]
  exact (aj rb2).trans ((aj rs).trans rfl)
 ·rw [h4 h,wb,rb',bc,uD hn _ mH]
  simp only [cG,h]
  show k _=k (((decide (0<el.Block))&&(aN m.aa el.Block).cf)&&bN el.Name)
  congr 1
  show (((decide (0<el.Block))&&(aN m.aa el.Block).cf)&&(bif ((decide (0<el.Block))&&(aN m.aa el.Block).cf) then bN el.Name else false))=_
  cases ((decide (0<el.Block))&&(aN m.aa el.Block).cf)<;>rfl
 ·rw [h5 h]
  simp only [cG,h]; rfl
 ·rw [h1 (.inr h),wi]
  simp only [cG,h]
  rw [ri,Bool.or_true,bc]
  exact (aj (by show (!_||aZ el.Ptr (ai m.aa el.Ino).ay.length)=true; rw [rp,Bool.or_true])).trans rfl
theorem Mi {n:Nat} (hn:bk<=n) (m:Mem) (hm:ej m) (hd:lH m.aa) (hnx:1<=m.Next/\m.Next<=100000) (i:Nat) (hi:i<m.ae.length) (k:Bool->Option R):wC n m (i:Int) k=k (nF m i):=by
 have CP:m.ae.length<=2097152:=hm.dp
 have NH:=hm.dep _ (aU aJ hi)
 have YA:(m.ae.getD i aJ).ab.length<=2097152:=NH.2
 simp only [wC,jh,aF,hi,zV,bc,zC,nF,bJ]
 rw [bO (by omega) (by omega)]
 obtain ⟨el,he⟩:∃ el,m.ae.getD i aJ=el:=⟨_,rfl⟩
 simp only [he] at NH YA ⊢
 cases h1:within el.Id 1 (m.Next-1); · rfl
 cases h2:within el.Kind 1 6; · rfl
 cases h3:within el.Ino 1 8; · rfl
 cases h4:within el.Ptr 0 1; · rfl
 cases h5:within el.Block 0 16; · rfl
 cases h6:within el.Slot 0 3; · rfl
 cases h7:within el.bx 0 (m.Next-1); · rfl
 simp only [zM,zN,zE,zF,Bool.or_false,Bool.true_and]
 rw [ak] at h2 h3 h4 h5 h6
 have tail:=Hx (R:=R) hn m hd el NH.1 h2 h3 h4 h5 h6
 generalize hQ:(bif (el.Kind==1) then _ else _:Option R)=Q
 have hq:Q=k (cG m el):=by
  refine tail (fun _=>Q) k ?_ ?_ ?_ ?_
  ·rintro (h | h)<;>(rw [← hQ]; simp only [h]; rfl)
  ·rintro (h | h)<;>(rw [← hQ]; simp only [h]; rfl)
  ·intro h; rw [← hQ]; simp only [h]; rfl
  ·intro h; rw [← hQ]; simp only [h]; rfl
 have l2:=kD (R:=R) (L:=fH (i:Int) el.Id m.ae (fun x=>k x) Q) (len:=i) (B:=0) (p:=fun j=> !((m.ae.getD j aJ).Id==el.Id)) (e:=k false) (q:=Q) (by omega)
  (fun m' j _ hj=>by
   simp only [fH,bh,aF,hj,zV,zE,zC]
   rw [show decide (j<m.ae.length)=true by simp; omega,bc]
   cases (m.ae.getD j aJ).Id==el.Id<;>rfl) (fun m'=>by simp [fH]) i n 0 (by omega) (aH hn (by omega))
 have l1:=fj (R:=R) (L:=k9 el.ab (fun x=>k x) (fH (i:Int) el.Id m.ae (fun x=>k x) Q n 0)) (l:=el.ab) 0 (B:=0) (P:=fun p=>within p 1 16) (e:=k false) (q:=fH (i:Int) el.Id m.ae (fun x=>k x) Q n 0) (by omega)
  (fun m' j _ hj=>by
   simp only [k9,jh,bh,aF,hj,zV,zE,bc,zC]
   cases within (el.ab.getD j 0) 1 16<;>rfl) (fun m'=>by simp [k9]) (n:=n) (aH hn (by omega))
 refine l1.trans ?_
 have l2':fH (i:Int) el.Id m.ae (fun x=>k x) Q n 0=_:=l2
 rw [l2',hq]
 cases List.all el.ab _<;>cases List.all (List.range' 0 i) _<;>rfl
theorem mY {n:Nat} (hn:bk<=n) (m:Mem) (hm:ej m) (k:Bool->Option R):lL n m k=k (fY m):=by
 have CP:m.ae.length<=2097152:=hm.dp
 simp only [lL,jh,fY]
 rw [yz hn _ hm.d,show (21:Int)=((21:Nat):Int) from rfl,cB,show decide ((40:Int)<(m.ae.length:Int))= !decide (m.ae.length<=40) by by_cases h:m.ae.length<=40<;>simp [h]<;>omega]
 cases h1:lz m.aa; · rfl
 cases h2:m.an.length==21; · rfl
 cases h3:decide (m.ae.length<=40); · rfl
 cases h4:within m.Next 1 100000; · rfl
 simp only [zM,zN,zE,zF,Bool.or_false,Bool.true_and]
 rw [ak] at h4
 have hd:=kK.1 h1
 have:=kD (R:=R) (L:=mD n m.Next m.aa.au.ab m.aa.au.bF m.aa.ad m.aa.ab m.an m.ae (fun x=>k x) (k true)) (len:=m.ae.length) (B:=0) (p:=nF m) (e:=k false) (q:=k true) (by omega)
  (fun m' j _ hj=>by
   simp only [mD,bh,hj,zV,zE]
   rw [Mi hn m hm hd h4 j hj]
   cases nF m j<;>rfl) (fun m'=>by simp [mD]) m.ae.length n 0 (by omega) (aH hn (by omega))
 refine this.trans ?_
 cases List.all _ (nF m)<;>rfl
theorem fq {α:Type} (l:List α) (d:α) {i:Nat} (h:i<l.length):l.getD i d=l[i]:=by simp [zT,h]
def oE:List UInt8->List UInt8->List ByteArray
 | cur,[]=>[zm cur]
 | cur,c::l=>bif c==47 then zm cur::oE [] l else oE (cur++[c]) l
def aP (p:ByteArray):List ByteArray×Bool:=match p.data.toList with
 | []=>([],false)
 | c::l=>bif c==47 then (match l with
  | []=>([],true)
  | l=>bif (oE [] l).all bN&&decide ((oE [] l).length<=4) then (oE [] l,true) else ([],false)) else ([],false)
theorem B3 (p:ByteArray) (b i:Nat) (h:b<=i):p.extract b i=zm ((p.data.toList.drop b).take (i-b)):=by
 apply ByteArray.ext
 apply Array.ext'
 simp only [ByteArray.data_extract,zm,Array.toList_extract,List.extract_eq_take_drop]
theorem vC {n:Nat} (hn:bk<=n) (p:ByteArray) (hp:p.size<=cM) (q0:Bool->List ByteArray->Option R) (q1:List ByteArray->Option R):∀ (rest cur:List UInt8) (b i m:Nat) (out:List ByteArray),p.data.toList.drop i=rest->cur=(p.data.toList.drop b).take (i-b)->b<=i->i<=p.size ->
  rest.length+1<m->out.length<=i->gf n p q0 q1 m (b:Int) (i:Int) out=bif (oE cur rest).all bN then q1 (out++oE cur rest) else q0 false []
 | [],cur,b,i,m,out,h1,h2,h3,h4,h5,h6=>by
  have yX:p.size<=2097152:=hp
  have hi:i=p.size:=by
   have:=congrArg List.length h1; rw [List.length_drop] at this
   have:p.data.toList.length=p.size:=rfl
   simp at *; omega
  match m,h5 with
  | m+2,_ =>
   simp only [gf,bh,oE,List.all_cons,List.all_nil,Bool.and_true]
   rw [show decide ((i:Int)<=(p.size:Int))=true by simp; omega,bH,show decide (i<p.size)=false by simp; omega]
   simp only [zN,Bool.true_or,bc,Bool.false_and,zF,zC]
   rw [B3 p b i h3,← h2,aj (by simp only [km,zB,zD]; omega),uD hn _ (by
    have:cur.length<=i-b:=by rw [h2,List.length_take]; omega
    show cur.length<=2097152; omega)]
   cases bN (zm cur) with
   | false=>rfl
   | true =>
    simp only [zM,zF,zE]
    rw [aj (by simp only [km,zB,zD]; omega),aj (cm h6 (by omega) (by simp)),bL (by omega),show decide (((i+1:Nat):Int)<=(p.size:Int))=false by simp; omega]
    rfl
 | c::rest,cur,b,i,m,out,h1,h2,h3,h4,h5,h6=>by
  have yX:p.size<=2097152:=hp
  have mH:p.data.toList.length=p.size:=rfl
  have hi:i<p.data.toList.length:=by
   have:=congrArg List.length h1; rw [List.length_drop] at this; simp at this ⊢; omega
  have hc:p.data.toList.getD i 0=c:=by
   have:=cQ (0:UInt8) hi; rw [h1] at this; injection this with h _; exact h.symm
  have hr:p.data.toList.drop (i+1)=rest:=by
   have:=cQ (0:UInt8) hi; rw [h1] at this; injection this with _ h; exact h.symm
  have ng:cur++[c]=(p.data.toList.drop b).take (i+1-b):=by
   rw [show i+1-b=(i-b)+1 by omega,List.take_add_one,← h2]
   congr 1
   rw [List.getElem?_drop,show b+(i-b)=i by omega,List.getElem?_eq_getElem hi]
   have:p.data.toList[i]=c:=by rw [← hc]; exact (fq _ 0 hi).symm
   rw [this]; rfl
  match m,h5 with
  | m+1,h5 =>
   have sx:i<p.size:=by omega
   simp only [gf,bh,aF,oE]
   rw [show decide ((i:Int)<=(p.size:Int))=true by simp; omega,bH,decide_eq_true sx]
   simp only [Bool.or_true,bc,Bool.true_and,zC,HQ,hc]
   have WK:(((c.toNat:Nat):Int)==47)=(c==47):=by
    rw [show (47:Int)=((47:Nat):Int) from rfl,cB]
    cases h:c==47 with
    | true=>rw [beq_iff_eq] at h; subst h; rfl
    | false =>
     rw [beq_eq_false_iff_ne] at h ⊢
     intro h2; apply h; exact UInt8.toNat_inj.1 h2
   rw [WK]
   cases h47:c==47 with
   | false =>
    simp only [zN,zE,zF]
    rw [bL (by omega)]
    exact vC hn p hp q0 q1 rest (cur++[c]) b (i+1) m out hr ng (by omega) (by omega) (by simp at h5; omega) (by omega)
   | true =>
    simp only [zM,zE,zF]
    rw [B3 p b i h3,← h2,aj (by simp only [km,zB,zD]; omega),uD hn _ (by
     have:cur.length<=i-b:=by rw [h2,List.length_take]; omega
     show cur.length<=2097152; omega)]
    rw [List.all_cons]
    cases bN (zm cur) with
    | false=>rfl
    | true =>
     simp only [zM,zF,Bool.true_and]
     rw [aj (by simp only [km,zB,zD]; omega),aj (cm h6 (by omega) (by simp)),bL (by omega),
      vC hn p hp q0 q1 rest [] (i+1) (i+1) m _ hr (by simp) (by omega) (by omega) (by simp at h5; omega) (by rw [zK,zL]; omega),List.append_assoc]
     rfl
theorem EF {a:ByteArray} {l:List UInt8}:a=zm l↔a.data.toList=l:=by
 constructor
 ·rintro rfl; rfl
 ·intro h; apply ByteArray.ext; apply Array.ext'; exact h
theorem nP {n:Nat} (hn:bk<=n) (p:ByteArray) (hp:p.size<=cM) (k:List ByteArray->Bool->Option R):jq n p k=k (aP p).1 (aP p).2:=by
 have yX:p.size<=2097152:=hp
 simp only [jq,aP]
 have mH:p.data.toList.length=p.size:=rfl
 cases hl:p.data.toList with
 | nil =>
  have:p.size=0:=by rw [← mH,hl]; rfl
  rw [this]; rfl
 | cons c l =>
  have h0:p.size=l.length+1:=by rw [← mH,hl]; rfl
  have hz:((p.size:Int)==0)=false:=by rw [h0]; simp; omega
  have hb:bt p 0=c.toNat:=by rw [HQ,hl]; rfl
  have WK:(((c.toNat:Nat):Int)==47)=(c==47):=by
   rw [show (47:Int)=((47:Nat):Int) from rfl,cB]
   cases h:c==47 with
   | true=>rw [beq_iff_eq] at h; subst h; rfl
   | false =>
    rw [beq_eq_false_iff_ne] at h ⊢
    intro h2; apply h; exact UInt8.toNat_inj.1 h2
  rw [hz,hb,WK,show aZ (0:Int) p.size=true by simp [aZ]; omega]
  simp only [Bool.or_true,bc,Bool.false_or]
  cases h47:c==47 with
  | false=>rfl
  | true =>
   simp only [zM,zF,zE]
   rw [beq_iff_eq] at h47; subst h47
   cases l with
   | nil =>
    have:(p==S [47])=true:=by rw [beq_iff_eq]; exact EF.2 hl
    rw [this]; rfl
   | cons d l =>
    have:(p==S [47])=false:=by
     rw [beq_eq_false_iff_ne]; intro h
     have h2:p.data.toList=[47]:=EF.1 h
     rw [hl] at h2; injection h2 with _ h2; cases h2
    rw [this]
    have:=vC (R:=R) hn p hp (fun x eH=>k eH x) (fun out=>bif (decide (4<(out.length:Int))) then k ([]) false else k out true) (d::l) [] 1 1 n [] (by rw [hl]; rfl) (by simp) (by omega) (by omega) (aH hn (by simp only [zR] at h0 ⊢; omega)) (by simp)
    simp only [zF]
    refine this.trans ?_
    rw [List.nil_append]
    cases h1:(oE [] (d::l)).all bN with
    | false=>rfl
    | true =>
     rw [show decide ((4:Int)<((oE [] (d::l)).length:Int))= !decide ((oE [] (d::l)).length<=4) by by_cases h:(oE [] (d::l)).length<=4<;>simp [h]<;>omega]
     cases decide ((oE [] (d::l)).length<=4)<;>rfl
def fb (l:List ByteArray):ByteArray:=l.foldl (fun s x=>(s++S [47])++x) eS
def ao (p:ByteArray):ByteArray×ByteArray×Bool:=bif !(aP p).2||(aP p).1.length==0 then (eS,eS,false) else
 (bif fb (aP p).1.dropLast==eS then S [47] else fb (aP p).1.dropLast,(aP p).1.getD ((aP p).1.length-1) eS,true)
theorem ny (p:ByteArray):(aP p=([],false))\/(aP p=([],true))\/((aP p).2=true/\(aP p).1.all bN=true/\(aP p).1.length<=4):=by
 simp only [aP]
 cases p.data.toList with
 | nil=>exact .inl rfl
 | cons c l =>
  dsimp only
  generalize (c==47)=z
  cases z with
  | false=>exact .inl rfl
  | true =>
   cases l with
   | nil=>exact .inr (.inl rfl)
   | cons d l =>
    dsimp only
    generalize oE [] (d::l)=ss
    cases h1:ss.all bN&&decide (ss.length<=4) with
    | false=>exact .inl rfl
    | true =>
     simp only [zB,zD] at h1
     exact .inr (.inr ⟨rfl,h1.1,h1.2⟩)
theorem nu {p:ByteArray} (h:(aP p).2=true):(aP p).1.all bN=true/\(aP p).1.length<=4:=by
 rcases ny p with h1 | h1 | h1
 ·rw [h1] at h; cases h
 ·rw [h1]; exact ⟨rfl,by simp⟩
 ·exact h1.2
theorem u0:∀ (l:List ByteArray) (a:ByteArray),(∀ x∈l,x.size<=6)->(l.foldl (fun s x=>(s++S [47])++x) a).size<=a.size+7*l.length
 | [],a,_=>by simp
 | x::l,a,h=>by
  have h1:=h x zO
  have h2:=u0 l ((a++S [47])++x) fun y hy=>h y (zJ _ hy)
  have h3:(S [47]).size=1:=rfl
  rw [List.foldl_cons,zR]
  rw [ByteArray.size_append,ByteArray.size_append,h3] at h2
  omega
theorem pU {n:Nat} (hn:bk<=n) (p:ByteArray) (hp:p.size<=cM) (k:ByteArray->ByteArray->Bool->Option R):kP n p k=k (ao p).1 (ao p).2.1 (ao p).2.2:=by
 simp only [kP,ao]
 rw [nP hn p hp]
 cases h2:(aP p).2 with
 | false=>rfl
 | true =>
  obtain ⟨F9,hlen⟩:=nu h2
  generalize (aP p).1=l at *
  rw [show (0:Int)=((0:Nat):Int) from rfl,cB]
  cases hl:l.length==0 with
  | true=>rfl
  | false =>
   have Rv:l.length≠0:=by simpa using hl
   have mH:∀ x∈l,x.size<=6:=fun x hx=>(eY (List.all_eq_true.1 F9 x hx)).2
   simp only [zM,Bool.false_or,zF]
   have hS:(S [47]).size=1:=rfl
   have loop:∀ (j m i:Nat) (a:ByteArray) (q:ByteArray->Option R),i+j+1=l.length->j<m->a.size<=7*i->iL l q m a (i:Int)=q ((l.dropLast.drop i).foldl (fun s x=>(s++S [47])++x) a):=by
    intro j
    induction j with
    | zero =>
     intro m i a q h1 h2 h3
     cases m with
     | zero=>omega
     | succ m =>
      simp only [iL]
      rw [bL (by omega),bh,show decide (i+1<l.length)=false by simp; omega,List.drop_of_length_le (by simp; omega)]
      rfl
    | succ j ih =>
     intro m i a q h1 h2 h3
     cases m with
     | zero=>omega
     | succ m =>
      have hi:i<l.length:=by omega
      have hx:=mH _ (aU eS hi)
      have CP:i<l.dropLast.length:=by simp; omega
      simp only [iL,aF,zC]
      rw [bL (by omega),bh,show decide (i+1<l.length)=true by simp; omega,decide_eq_true hi,bH,bc,aj (iP (by omega)),aj (iP (by rw [ByteArray.size_append]; omega)),
       ih m (i+1) _ q (by omega) (by omega) (by rw [ByteArray.size_append,ByteArray.size_append]; omega),cQ eS CP,List.foldl_cons]
      congr 3
      rw [fq _ _ hi,fq _ _ CP,List.getElem_dropLast]
   have:=loop (l.length-1) n 0 eS (fun s=>bif s==eS then aK (aZ (aA ((l.length:Int)-1)) l.length) (k (S [47]) (l.getD ((aA ((l.length:Int)-1)).toNat) eS) true) else aK (aZ (aA ((l.length:Int)-1)) l.length) (k s (l.getD ((aA ((l.length:Int)-1)).toNat) eS) true)) (by omega) (aH hn (by omega)) (by decide)
   refine this.trans ?_
   rw [List.drop_zero,bO (by omega) (by omega),aj (bz (by omega) (by omega)),aj (bz (by omega) (by omega)),show ((l.length:Int)-1).toNat=l.length-1 by omega]
   show (bif fb l.dropLast==eS then _ else _)=_
   cases fb l.dropLast==eS<;>rfl
def gx (d:aa) (name:ByteArray):List Int->Int×Int×Int
 | []=>(0,0,0)
 | p::l=>bif ((cV d p).2&&(cV d p).1.cf)&&decide (0<=dI (cV d p).1 name) then (p,dI (cV d p).1 name,((cV d p).1.ah.getD (dI (cV d p).1 name).toNat aq).Ino) else gx d name l
def find (d:aa) (i:Int) (name:ByteArray):Int×Int×Int:=bif within i 1 d.ad.length&&(ai d i).Kind==2 then gx d name (ai d i).ay else (0,0,0)
theorem ED {b:Block} {name:ByteArray} (h:0<=dI b name):(dI b name).toNat<b.ah.length:=by
 revert h; simp only [dI]
 cases name==eS with
 | true=>intro h; simp at h
 | false =>
  simp only [zF]
  rcases gg (fun s:Slot=>s.Name==name) b.ah with h | ⟨j,h,hj⟩<;>rw [h]<;>intro h2
  ·omega
  ·omega
theorem LV {d:aa} (hd:ja d) (p:Int):(cV d p).1.ah.length<=cM:=by
 simp only [cV]
 cases h:within p 1 d.ab.length with
 | false=>exact Nat.zero_le _
 | true =>
  rw [ak] at h
  exact (hd.pd _ (aU aC (by omega))).1
theorem qV {n:Nat} (hn:bk<=n) (d:aa) (hd:ja d) (i:Int) (name:ByteArray) (k:Int->Int->Int->Option R):mf n d i name k=k (find d i name).1 (find d i name).2.1 (find d i name).2.2:=by
 have QF:d.ad.length<=2097152:=hd.di
 simp only [mf,jh,find]
 cases hw:within i 1 d.ad.length with
 | false=>rfl
 | true =>
  rw [ak] at hw
  rw [bO (by omega) (by omega),bz hw.1 hw.2]
  simp only [Bool.or_true,bc,zM,Bool.false_or,Bool.true_and]
  show (bif !((ai d i).Kind==2) then _ else _)=_
  cases hk:(ai d i).Kind==2 with
  | false=>rfl
  | true =>
   have LJ:(ai d i).ay.length<=2097152:=hd.ino _ (aU az (by omega))
   simp only [zM,zF,zE]
   have loop:∀ (ps:List Int) (j m:Nat),ps=(ai d i).ay.drop j->j<=(ai d i).ay.length->ps.length<m->jZ n name d.au.ab d.au.bF d.ad d.ab (ai d i).ay (fun x eH qf=>k x eH qf) (k 0 0 0) m (j:Int)=k (gx d name ps).1 (gx d name ps).2.1 (gx d name ps).2.2:=by
    intro ps
    induction ps with
    | nil =>
     intro j m h1 h2 h3
     have:j=(ai d i).ay.length:=by have:=congrArg List.length h1; simp at this; omega
     cases m with
     | zero=>simp at h3
     | succ m=>simp [jZ,gx,this]
    | cons p ps ih =>
     intro j m h1 h2 h3
     have hj:j<(ai d i).ay.length:=by have:=congrArg List.length h1; simp at this; omega
     have Qp:=cQ (0:Int) hj
     rw [← h1] at Qp; injection Qp with WJ NK
     cases m with
     | zero=>simp at h3
     | succ m =>
      simp only [jZ,bh,aF,hj,zV,zE,bc,zC,← WJ]
      rw [show (⟨⟨d.au.ab,d.au.bF⟩,d.ad,d.ab⟩:aa)=d from rfl,zc d hd.db,DF hn _ (LV hd p)]
      simp only [gx]
      cases hc:((cV d p).2&&(cV d p).1.cf)&&decide (0<=dI (cV d p).1 name) with
      | false =>
       simp only [zF]
       rw [bL (by omega)]
       exact ih (j+1) m NK (by omega) (by simp at h3; omega)
      | true =>
       simp only [zB,zD] at hc
       have:=ED hc.2
       simp only [zE]
       rw [aj (by simp only [aZ,zB,zD]; omega)]
   exact loop _ 0 n (by simp) (by omega) (aH hn (by omega))
def cD (d:aa):Int->List ByteArray->Int
 | i,[]=>i
 | i,x::l=>bif within (find d i x).2.2 1 d.ad.length then cD d (find d i x).2.2 l else 0
def aD (d:aa) (p:ByteArray):Int:=bif (aP p).2 then cD d 1 (aP p).1 else 0
theorem jA {n:Nat} (hn:bk<=n) (d:aa) (hd:ja d) (p:ByteArray) (hp:p.size<=cM) (k:Int->Option R):gT n d p k=k (aD d p):=by
 simp only [gT,aD]
 rw [nP hn p hp]
 cases h2:(aP p).2 with
 | false=>rfl
 | true =>
  obtain ⟨F9,hlen⟩:=nu h2
  generalize (aP p).1=l at *
  simp only [zM,zF,zE]
  have loop:∀ (ps:List ByteArray) (j m:Nat) (i:Int),ps=l.drop j->j<=l.length->ps.length<m->iM n l d.au.ab d.au.bF d.ad d.ab (fun x=>k x) (fun i=>k i) m i (j:Int)=k (cD d i ps):=by
   intro ps
   induction ps with
   | nil =>
    intro j m i h1 h2 h3
    have:j=l.length:=by have:=congrArg List.length h1; simp at this; omega
    cases m with
    | zero=>simp at h3
    | succ m=>simp [iM,cD,this]
   | cons p ps ih =>
    intro j m i h1 h2 h3
    have hj:j<l.length:=by have:=congrArg List.length h1; simp at this; omega
    have Qp:=cQ eS hj
    rw [← h1] at Qp; injection Qp with WJ NK
    cases m with
    | zero=>simp at h3
    | succ m =>
     simp only [iM,jh,bh,aF,hj,zV,zE,bc,zC,← WJ]
     rw [show (⟨⟨d.au.ab,d.au.bF⟩,d.ad,d.ab⟩:aa)=d from rfl,qV hn d hd]
     simp only [cD]
     cases hc:within (find d i p).2.2 1 d.ad.length with
     | false=>rfl
     | true =>
      simp only [zM,zF,zE]
      rw [bL (by omega)]
      exact ih (j+1) m _ NK (by omega) (by simp at h3; omega)
  exact loop _ 0 n 1 (by simp) (by omega) (aH hn (by omega))
def waits (m:Mem) (dir:Int) (name:ByteArray):Bool:=m.ae.any fun d=>(((d.Kind==4)&&decide (0<d.bx))&&(d.Name==name))&&has (ai m.aa dir).ay d.Block
theorem zY {n:Nat} (hn:bk<=n) (m:Mem) (hm:m.ae.length<=cM) (hd:m.aa.ad.length<=cM) (dir:Int) (h1:1<=dir) (h2:dir<=m.aa.ad.length) (hp:(ai m.aa dir).ay.length<=cM) (name:ByteArray) (k:Bool->Option R) :
  qF n m dir name k=k (waits m dir name):=by
 have J5:m.ae.length<=2097152:=hm
 have z6:m.aa.ad.length<=2097152:=hd
 have:=fj (R:=R) (L:=iV n dir name m.aa.ad m.ae (fun x=>k x) (k false)) (l:=m.ae) aJ (B:=0) (P:=fun d=> !((((d.Kind==4)&&decide (0<d.bx))&&(d.Name==name))&&has (ai m.aa dir).ay d.Block)) (e:=k true) (q:=k false) (by omega)
  (fun m' i _ hi=>by
   simp only [iV,bh,aF,hi,zV,bc,zE,zC]
   rw [bO (by omega) (by omega),bz h1 h2,Bool.or_true,bc]
   refine (yF hn (ai m.aa dir).ay hp _ _).trans ?_
   generalize ((((m.ae.getD i aJ).Kind==4)&&decide (0<(m.ae.getD i aJ).bx))&&((m.ae.getD i aJ).Name==name))=c
   generalize has (ai m.aa dir).ay (m.ae.getD i aJ).Block=x
   cases c<;>cases x<;>rfl) (fun m'=>by simp [iV]) (n:=n) (aH hn (by omega))
 refine this.trans ?_
 rw [AE (fun d:bG=>(((d.Kind==4)&&decide (0<d.bx))&&(d.Name==name))&&has (ai m.aa dir).ay d.Block),waits]
 cases m.ae.any _<;>rfl
def held (m:Mem) (i:Int):Bool:=m.ae.any fun d=>((d.Kind==4)&&decide (0<d.bx))&&has (ai m.aa i).ay d.Block
theorem IU {n:Nat} (hn:bk<=n) (m:Mem) (hm:m.ae.length<=cM) (hd:m.aa.ad.length<=cM) (dir:Int) (h1:1<=dir) (h2:dir<=m.aa.ad.length) (hp:(ai m.aa dir).ay.length<=cM) (k:Bool->Option R) :
  xZ n m dir k=k (held m dir):=by
 have J5:m.ae.length<=2097152:=hm
 have z6:m.aa.ad.length<=2097152:=hd
 have:=fj (R:=R) (L:=jI n dir m.aa.ad m.ae (fun x=>k x) (k false)) (l:=m.ae) aJ (B:=0) (P:=fun d=> !(((d.Kind==4)&&decide (0<d.bx))&&has (ai m.aa dir).ay d.Block)) (e:=k true) (q:=k false) (by omega)
  (fun m' i _ hi=>by
   simp only [jI,bh,aF,hi,zV,bc,zE,zC]
   rw [bO (by omega) (by omega),bz h1 h2,Bool.or_true,bc]
   refine (yF hn (ai m.aa dir).ay hp _ _).trans ?_
   generalize (((m.ae.getD i aJ).Kind==4)&&decide (0<(m.ae.getD i aJ).bx))=c
   generalize has (ai m.aa dir).ay (m.ae.getD i aJ).Block=x
   cases c<;>cases x<;>rfl) (fun m'=>by simp [jI]) (n:=n) (aH hn (by omega))
 refine this.trans ?_
 rw [AE (fun d:bG=>((d.Kind==4)&&decide (0<d.bx))&&has (ai m.aa dir).ay d.Block),held]
 cases m.ae.any _<;>rfl
def pF (b:Block):List ByteArray:=bif b.cf then (b.ah.filter fun s=> !(s.Name==eS)).map (·.Name) else []
def pw (d:aa) (i:Int):List ByteArray:=bif within i 1 d.ad.length&&(ai d i).Kind==2 then (ai d i).ay.flatMap fun p=>pF (cV d p).1 else []
theorem GK (b:Block):(pF b).length<=b.ah.length:=by
 simp only [pF]
 cases b.cf with
 | false=>simp
 | true=>simp only [zE,List.length_map]; exact List.length_filter_le _ _
theorem Dm (b:Block) (hb:b.ah.length<=2097152) (q:List ByteArray->Option R) (m:Nat) (hm:b.ah.length<m) (acc:List ByteArray) (ha:acc.length<=1000000000):eU b.cf b.ah q m 0 acc=q (acc++pF b):=by
 cases hd:b.cf with
 | false =>
  cases m with
  | zero=>omega
  | succ m=>simp [eU,pF,hd]
 | true =>
  have loop:∀ (ss:List Slot) (j m:Nat) (acc:List ByteArray),ss=b.ah.drop j->j<=b.ah.length->ss.length<m->acc.length<=1000000000+j->eU true b.ah q m (j:Int) acc=q (acc++(ss.filter fun s=> !(s.Name==eS)).map (·.Name)):=by
   intro ss
   induction ss with
   | nil =>
    intro j m acc h1 h2 h3 h4
    have:j=b.ah.length:=by have:=congrArg List.length h1; simp at this; omega
    cases m with
    | zero=>simp at h3
    | succ m=>simp [eU,this]
   | cons s ss ih =>
    intro j m acc h1 h2 h3 h4
    have hj:j<b.ah.length:=by have:=congrArg List.length h1; simp at this; omega
    have Qp:=cQ aq hj
    rw [← h1] at Qp; injection Qp with WJ NK
    cases m with
    | zero=>simp at h3
    | succ m =>
     simp only [eU,bh,aF,hj,zV,zE,bc,zC,← WJ,Bool.true_and,List.filter_cons]
     rw [bL (by omega)]
     cases hs:s.Name==eS with
     | true =>
      simp only [zM,zF]
      rw [ih (j+1) m acc NK (by omega) (by simp at h3; omega) (by omega)]
      rfl
     | false =>
      simp only [zN,zE]
      rw [aj (bZ (by rw [zK,zL]; omega)),ih (j+1) m _ NK (by omega) (by simp at h3; omega) (by rw [zK,zL]; omega),List.append_assoc]
      rfl
  have:=loop b.ah 0 m acc (by simp) (by omega) hm (by omega)
  simp only [pF,hd,zE]
  exact this
theorem Jk {n:Nat} (hn:bk<=n) (d:aa) (hd:ja d) (i:Int) (hp:∀ x∈d.ad,x.ay.length<=2) (hb:∀ b∈d.ab,b.ah.length<=4) (k:List ByteArray->Option R):uL n d i k=k (pw d i):=by
 have QF:d.ad.length<=2097152:=hd.di
 simp only [uL,jh,pw]
 cases hw:within i 1 d.ad.length with
 | false=>rfl
 | true =>
  rw [ak] at hw
  rw [bO (by omega) (by omega),bz hw.1 hw.2]
  simp only [Bool.or_true,bc,zM,Bool.false_or,Bool.true_and]
  show (bif !((ai d i).Kind==2) then _ else _)=_
  cases hk:(ai d i).Kind==2 with
  | false=>rfl
  | true =>
   have LJ:(ai d i).ay.length<=2:=hp _ (aU az (by omega))
   have Rq:∀ p,(cV d p).1.ah.length<=4:=by
    intro p
    simp only [cV]
    cases h:within p 1 d.ab.length with
    | false=>exact Nat.zero_le _
    | true=>rw [ak] at h; exact hb _ (aU aC (by omega))
   simp only [zM,zF,zE]
   have:=uc (R:=R) (L:=j0 d.au.ab d.au.bF d.ad d.ab (ai d i).ay (fun out=>k out)) (l:=(ai d i).ay) 0 (f:=fun p=>pF (cV d p).1) (B:=100) (C:=4) (q:=fun out=>k out) (by omega)
    (fun p _=>Nat.le_trans (GK _) (Rq p))
    (fun m j acc hm hj ha=>by
     simp only [j0,bh,aF,hj,zV,zE,bc,zC]
     rw [show (⟨⟨d.au.ab,d.au.bF⟩,d.ad,d.ab⟩:aa)=d from rfl,zc d hd.db]
     have h4:=Rq ((ai d i).ay.getD j 0)
     rw [Dm _ (by omega) _ m (by omega) acc (by omega)]) (fun m acc=>by simp [j0]) (ai d i).ay.length n 0 [] (by omega) (aH hn (by omega)) (by simp)
   rw [List.drop_zero,List.nil_append] at this
   exact this
structure fK (m:Mem):Prop where
 d:lH m.aa
 dy:m.an.length=21
 dp:m.ae.length<=40
 n1:1<=m.Next
 n2:m.Next<=100000
 num:∀ x∈m.ae,bJ m x=true
 bs:∀ x∈m.ae,x.ab.all (fun p=>within p 1 16)=true
 yn:∀ x∈m.ae,cG m x=true
 ids:m.ae.Pairwise fun a b=>¬ a.Id=b.Id
theorem vi {α:Type} {l:List α} (d:α) {P:α->α->Prop}:l.Pairwise P↔∀ i j,j<i->i<l.length->P (l.getD j d) (l.getD i d):=by
 rw [List.pairwise_iff_getElem]
 constructor
 ·intro h i j hj hi
  rw [fq _ _ hi,fq _ _ (by omega:j<l.length)]
  exact h j i (by omega) hi hj
 ·intro h i j hi hj Uh
  have:=h j i Uh hj
  rwa [fq _ _ hi,fq _ _ hj] at this
theorem n6 {m:Mem}:fY m=true↔fK m:=by
 simp only [fY,zB,beq_iff_eq,zD,ak,kK]
 constructor
 ·rintro ⟨⟨h1,h2,h3,h4,h5⟩,h6⟩
  have h7:∀ i,i<m.ae.length->nF m i=true:=fun i hi=>mz h6 hi
  have h8:∀ x∈m.ae,∃ i,i<m.ae.length/\x=m.ae.getD i aJ:=by
   intro x hx
   obtain ⟨i,hi,rfl⟩:=List.mem_iff_getElem.1 hx
   exact ⟨i,hi,(fq _ _ hi).symm⟩
  refine ⟨h1,h2,h3,h4,h5,?_,?_,?_,?_⟩
  ·intro x hx
   obtain ⟨i,hi,rfl⟩:=h8 x hx
   have:=h7 i hi
   simp only [nF,zB] at this
   exact this.1
  ·intro x hx
   obtain ⟨i,hi,rfl⟩:=h8 x hx
   have:=h7 i hi
   simp only [nF,zB] at this
   exact this.2.1
  ·intro x hx
   obtain ⟨i,hi,rfl⟩:=h8 x hx
   have:=h7 i hi
   simp only [nF,zB] at this
   exact this.2.2.2
  ·rw [vi aJ]
   intro i j hj hi
   have:=h7 i hi
   simp only [nF,zB] at this
   have:=mz this.2.2.1 hj
   simpa using this
 ·intro h
  refine ⟨⟨h.d,h.dy,h.dp,h.n1,h.n2⟩,?_⟩
  rw [List.all_eq_true]
  intro i hi
  rw [List.mem_range'] at hi
  obtain ⟨i',sx,e⟩:=hi
  have e':i=i':=by omega
  subst e'
  have hm:m.ae.getD i aJ∈m.ae:=aU aJ sx
  simp only [nF,zB]
  refine ⟨h.num _ hm,h.bs _ hm,?_,h.yn _ hm⟩
  rw [List.all_eq_true]
  intro j hj
  rw [List.mem_range'] at hj
  obtain ⟨j',NF,e⟩:=hj
  have e':j=j':=by omega
  subst e'
  have:=(vi aJ).1 h.ids i j NF sx
  simpa using this
def bS (u:Int) (y:List Bool):List Bool:=bif decide (0<=u)&&decide (u<y.length) then y.set u.toNat true else y
theorem qQ (u:Int) (m:Mem):mark u m={ m with an:=bS u m.an }:=by
 simp only [mark,bS]
 cases decide (0<=u)&&decide (u<(m.an.length:Int))<;>rfl
theorem jS (u:Int) (d:aa) (y:List Bool) (p:List bG) (x:Int):mark u ⟨d,y,p,x⟩=⟨d,bS u y,p,x⟩:=qQ u _
theorem cR (u:Int) (y:List Bool):(bS u y).length=y.length:=by
 simp only [bS]
 cases decide (0<=u)&&decide (u<(y.length:Int)) with
 | false=>rfl
 | true=>exact List.length_set
theorem fK.bS {m:Mem} (h:fK m) (u:Int):fK { m with an:=Soft.bS u m.an } :=
 ⟨h.d,(cR u m.an).trans h.dy,h.dp,h.n1,h.n2,h.num,h.bs,h.yn,h.ids⟩
theorem fK.bK {m:Mem} (h:fK m) {y:List Bool} (hy:y.length=21):fK { m with an:=y } :=
 ⟨h.d,hy,h.dp,h.n1,h.n2,h.num,h.bs,h.yn,h.ids⟩
theorem fK.less {m:Mem} (h:fK m) {l:List bG} (hl:l.Sublist m.ae):fK { m with ae:=l } :=
 ⟨h.d,h.dy,Nat.le_trans hl.length_le h.dp,h.n1,h.n2,fun x hx=>h.num x (hl.subset hx),fun x hx=>h.bs x (hl.subset hx),fun x hx=>h.yn x (hl.subset hx),h.ids.sublist hl⟩
theorem fK.drop {m:Mem} (h:fK m) (id:Int):fK (bd m id):=h.less List.filter_sublist
def eZ (id after:Int) (d:bG):bG:=bif (d.Kind==4)&&(d.bx==id) then { d with bx:=after } else d
def A1 (id after:Int) (y:List Bool) (d:bG):List Bool:=bif ((d.Kind==4)&&(d.bx==id))&&(after==0) then bS (aG d.Block) y else y
def shown (id after:Int) (m:Mem):Mem:=⟨m.aa,(bd m id).ae.foldl (A1 id after) m.an,(bd m id).ae.map (eZ id after),m.Next⟩
theorem oZ {α:Type} {a:List α} {j:Nat} (d:α) (h:a.length=j) {x:α} {b:List α}:(a++x::b).getD j d=x:=by
 rw [zT,List.getElem?_append_right (by omega),h,Nat.sub_self]; rfl
theorem nT {α:Type} {a:List α} {j:Nat} (y:α) (h:a.length=j) {x:α} {b:List α}:(a++x::b).set j y=a++y::b:=by
 rw [List.set_append_right _ _ (by omega),h,Nat.sub_self]; rfl
theorem Jh (id after:Int) (bb bi:List Bool) (di:List aV) (db:List Block) (q:Int->List Bool->List bG->Option R) (next:Int) (l:List bG) (hl:l.length<=2097152) :
  ∀ (r j m:Nat) (y:List Bool),j+r=l.length->r<m ->
   fP id after bb bi di db q m (j:Int) next y ((l.take j).map (eZ id after)++l.drop j)=q next ((l.drop j).foldl (A1 id after) y) (l.map (eZ id after)):=by
 intro r
 induction r with
 | zero =>
  intro j m y hj hm
  cases m with
  | zero=>omega
  | succ m =>
   have:j=l.length:=by omega
   subst this
   simp [fP]
 | succ r ih =>
  intro j m y hj hm
  cases m with
  | zero=>omega
  | succ m =>
   have fW:j<l.length:=by omega
   have Xh:((l.take j).map (eZ id after)).length=j:=by simp; omega
   have ZA:(l.take (j+1)).map (eZ id after)=(l.take j).map (eZ id after)++[eZ id after (l.getD j aJ)]:=by
    rw [List.take_succ_eq_append_getElem fW,List.map_append,List.map_singleton,fq _ _ fW]
   have tL:=ih (j+1) m
   rw [ZA,List.append_assoc,List.singleton_append] at tL
   rw [cQ aJ fW,List.foldl_cons]
   have htl:(l.drop (j+1)).length=l.length-(j+1):=List.length_drop
   generalize (l.take j).map (eZ id after)=a at Xh tL ⊢
   generalize l.getD j aJ=x at tL ⊢
   generalize l.drop (j+1)=b at htl tL ⊢
   have hlen:∀ z:bG,(a++z::b).length=l.length:=fun z=>by simp only [zK,zR]; omega
   simp only [fP,zC]
   rw [oZ _ Xh,nT _ Xh,oZ _ Xh,hlen,hlen,bh,aF,bL (by omega)]
   simp only [fW,zV,zE,bc,Bool.or_true]
   cases hc:(x.Kind==4)&&(x.bx==id) with
   | false =>
    have ha:eZ id after x=x:=by simp only [eZ,hc,zF]
    have hb:A1 id after y x=y:=by simp only [A1,hc,Bool.false_and,zF]
    rw [ha] at tL
    rw [zF,hb]
    exact tL y (by omega) (by omega)
   | true =>
    have ha:eZ id after x={ x with bx:=after }:=by simp only [eZ,hc,zE]
    rw [ha] at tL
    rw [zE]
    cases h0:after==0 with
    | false =>
     have hb:A1 id after y x=y:=by simp only [A1,hc,h0,Bool.and_false,zF]
     rw [zF,hb]
     exact tL y (by omega) (by omega)
    | true =>
     have hb:A1 id after y x=bS (aG x.Block) y:=by simp only [A1,hc,h0,Bool.and_true,zE]
     rw [zE,eB,dq,jS,hb]
     exact tL _ (by omega) (by omega)
theorem zy {n:Nat} (hn:bk<=n) (m:Mem) (hm:ej m) (id after:Int) (k:Mem->Option R):oA n id after m k=k (shown id after m):=by
 have V8:m.ae.length<=2097152:=hm.dp
 have hle:(bd m id).ae.length<=m.ae.length:=List.length_filter_le _ _
 simp only [oA]
 rw [oU hn m hm]
 exact (Jh (R:=R) id after _ _ _ _ _ m.Next (bd m id).ae (by omega) (bd m id).ae.length 0 n m.an (by omega) (aH hn (by omega))).trans rfl
theorem wz {m m':Mem} (h:m.Next<=m'.Next) {d:bG} (hd:bJ m d=true):bJ m' d=true:=by
 simp only [bJ,zB,ak] at hd ⊢
 obtain ⟨h1,h2,h3,h4,h5,h6,h7⟩:=hd
 exact ⟨⟨h1.1,by omega⟩,h2,h3,h4,h5,h6,h7.1,by omega⟩
theorem fK.put {m:Mem} (h:fK m) (d:bG) (hn:bJ { m with Next:=m.Next+1 } { d with Id:=m.Next }=true) (hb:d.ab.all (fun p=>within p 1 16)=true) (hk:cG m d=true):fK (b8 m d).1:=by
 simp only [b8]
 cases hp:dW m with
 | false=>exact h
 | true =>
  simp only [dW,zB,zD,ak] at hp
  have eP:∀ x∈m.ae++[{ d with Id:=m.Next }],x∈m.ae\/x={ d with Id:=m.Next }:=by
   intro x hx
   simpa using hx
  refine ⟨h.d,h.dy,?_,?_,?_,?_,?_,?_,?_⟩
  ·show (m.ae++[_]).length<=40
   rw [zK,zL]; omega
  ·show 1<=m.Next+1; omega
  ·show m.Next+1<=100000; omega
  ·intro x hx
   rcases eP x hx with hx | rfl
   ·exact wz (m:=m) (by show m.Next<=m.Next+1; omega) (h.num x hx)
   ·exact hn
  ·intro x hx
   rcases eP x hx with hx | rfl
   ·exact h.bs x hx
   ·exact hb
  ·intro x hx
   rcases eP x hx with hx | rfl
   ·exact h.yn x hx
   ·exact hk
  ·show (m.ae++[_]).Pairwise _
   rw [List.pairwise_append]
   refine ⟨h.ids,List.pairwise_singleton _ _,fun a ha b hb=> ?_⟩
   rw [zS] at hb
   subst hb
   have:=h.num a ha
   simp only [bJ,zB,ak] at this
   show ¬ a.Id=m.Next
   omega
theorem mem_set {α:Type} {l:List α} {i:Nat} {a x:α} (h:x∈l.set i a):x∈l\/x=a:=List.mem_or_eq_of_mem_set h
theorem Et {d:aa} {l:List aV} {i j:Int} {x:aV} (h1:1<=i) (h2:i<=l.length) (j1:1<=j):ai { d with ad:=l.set (i-1).toNat x } j=bif j==i then x else l.getD (j-1).toNat az:=by
 show (l.set (i-1).toNat x).getD (j-1).toNat az=_
 cases h:j==i with
 | true =>
  have:j=i:=by simpa using h
  subst this
  simp only [zE]
  rw [zT,List.getElem?_set_self (by omega)]; rfl
 | false =>
  have cT:¬ j=i:=by simpa using h
  simp only [zF]
  rw [zT,List.getElem?_set_ne (by omega),← zT]
theorem yq {d:aa} {l:List Block} {i j:Int} {x:Block} (h1:1<=i) (h2:i<=l.length) (j1:1<=j):aN { d with ab:=l.set (i-1).toNat x } j=bif j==i then x else l.getD (j-1).toNat aC:=by
 show (l.set (i-1).toNat x).getD (j-1).toNat aC=_
 cases h:j==i with
 | true =>
  have:j=i:=by simpa using h
  subst this
  simp only [zE]
  rw [zT,List.getElem?_set_self (by omega)]; rfl
 | false =>
  have cT:¬ j=i:=by simpa using h
  simp only [zF]
  rw [zT,List.getElem?_set_ne (by omega),← zT]
theorem fK.nA {m:Mem} (h:fK m) {i:Int} (h1:1<=i) (h2:i<=8) {x:aV} (hx:bp x=true)
  (hd:∀ d∈m.ae,(d.Kind==1||d.Kind==6)=true->d.Ino=i->(x.ay.getD d.Ptr.toNat 0==d.Block)=true) :
  fK { m with aa:={ m.aa with ad:=m.aa.ad.set (i-1).toNat x } }:=by
 refine ⟨⟨h.d.bb,h.d.bi,List.length_set.trans h.d.di,h.d.db,?_,h.d.pd⟩,h.dy,h.dp,h.n1,h.n2,h.num,h.bs,?_,h.ids⟩
 ·intro y hy
  rcases mem_set hy with hy | rfl
  ·exact h.d.ino y hy
  ·exact hx
 ·intro d z6
  have hk:=h.yn d z6
  have hn:=h.num d z6
  simp only [bJ,zB,ak] at hn
  simp only [cG] at hk ⊢
  cases hc:(d.Kind==1)||(d.Kind==6) with
  | false =>
   simp only [hc,zF] at hk ⊢
   exact hk
  | true =>
   simp only [hc,zE,zB] at hk ⊢
   refine ⟨hk.1,?_⟩
   rw [Et h1 (by rw [h.d.di]; exact h2) (by omega)]
   cases he:d.Ino==i with
   | true=>exact hd d z6 hc (by simpa using he)
   | false=>exact hk.2
theorem fK.p8 {m:Mem} (h:fK m) {p:Int} (h1:1<=p) (h2:p<=16) {b:Block} (hb:bA b=true)
  (hd:∀ d∈m.ae,(d.Kind==2||d.Kind==3)=true->d.Block=p->b.cf=true/\((b.ah.getD d.Slot.toNat aq).Ino==d.Ino)=true)
  (h4:∀ d∈m.ae,(d.Kind==4)=true->d.Block=p->b.cf=true) :
  fK { m with aa:={ m.aa with ab:=m.aa.ab.set (p-1).toNat b } }:=by
 refine ⟨⟨h.d.bb,h.d.bi,h.d.di,List.length_set.trans h.d.db,h.d.ino,?_⟩,h.dy,h.dp,h.n1,h.n2,h.num,h.bs,?_,h.ids⟩
 ·intro y hy
  rcases mem_set hy with hy | rfl
  ·exact h.d.pd y hy
  ·exact hb
 ·intro d z6
  have hk:=h.yn d z6
  simp only [cG] at hk ⊢
  cases hc:(d.Kind==1)||(d.Kind==6) with
  | true =>
   simp only [hc,zE] at hk ⊢
   exact hk
  | false =>
   simp only [hc,zF] at hk ⊢
   cases fy:(d.Kind==2)||(d.Kind==3) with
   | true =>
    simp only [fy,zE,zB,zD] at hk ⊢
    rw [yq h1 (by rw [h.d.db]; exact h2) (by omega)]
    cases he:d.Block==p with
    | true =>
     have:=hd d z6 fy (by simpa using he)
     exact ⟨⟨hk.1.1,this.1⟩,this.2⟩
    | false=>exact hk
   | false =>
    simp only [fy,zF] at hk ⊢
    cases iZ:d.Kind==4 with
    | false=>rfl
    | true =>
     simp only [iZ,zE,zB,zD] at hk ⊢
     rw [yq h1 (by rw [h.d.db]; exact h2) (by omega)]
     cases he:d.Block==p with
     | true=>exact ⟨⟨hk.1.1,h4 d z6 iZ (by simpa using he)⟩,hk.2⟩
     | false=>exact hk
theorem fK.tR {m:Mem} (h:fK m) {bb bi:List Bool} (h1:bb.length=16) (h2:bi.length=8):fK { m with aa:={ m.aa with au:=⟨bb,bi⟩ } } :=
 ⟨⟨h1,h2,h.d.di,h.d.db,h.d.ino,h.d.pd⟩,h.dy,h.dp,h.n1,h.n2,h.num,h.bs,h.yn,h.ids⟩
def stays (i:Int) (d:bG):Bool:=((!(d.Kind==1))&&(!(d.Kind==6)))||(!(d.Ino==i))
theorem S4 {n:Nat} (hn:bk<=n) (i:Int) (l:List bG) (hl:l.length<=cM) (q:List bG->Option R):eW i l q n 0 []=q (l.filter (stays i)):=by
 have xX:l.length<=2097152:=hl
 exact pJ (R:=R) (L:=eW i l q) (l:=l) aJ (P:=stays i) (B:=0) (q:=q) (by omega)
  (fun m j acc _ hi ha=>by
   simp only [eW,bh,aF,hi,zV,bc,zE,zC,Bool.or_true,stays]
   rw [aj (cm ha (by omega) (by simp))]) (fun m acc=>by simp [eW]) (n:=n) (aH hn (by omega))
theorem Ot {n:Nat} (hn:bk<=n) (v:Nat) (di:List aV) (hl:(di.getD v az).ay.length<=cM) (q:List Int->Option R):ea v di q n 0 []=q ((di.getD v az).ay.filter fun p=>decide (0<p)):=by
 have xX:(di.getD v az).ay.length<=2097152:=hl
 exact pJ (R:=R) (L:=ea v di q) (l:=(di.getD v az).ay) 0 (P:=fun p=>decide (0<p)) (B:=0) (q:=q) (by omega)
  (fun m j acc _ hi ha=>by
   simp only [ea,bh,aF,hi,zV,bc,zE,zC]
   rw [aj (cm ha (by omega) (by simp))]) (fun m acc=>by simp [ea]) (n:=n) (aH hn (by omega))
def gG (x:aV):aV:=bif decide (0<x.Links) then ⟨x.Kind,x.Links-1,x.ay⟩ else x
def aQ (d:aa) (i:Int) (x:aV):aa:={ d with ad:=d.ad.set (i-1).toNat x }
def ch (d:aa) (p:Int) (b:Block):aa:={ d with ab:=d.ab.set (p-1).toNat b }
def iI (i:Int) (m:Mem):Mem :=
 bif decide (40<=(m.ae.length:Int))|| !within m.Next 1 99999 then m else
 bif decide (0<(gG (ai m.aa i)).Links)||((gG (ai m.aa i)).Kind==0) then ⟨aQ m.aa i (gG (ai m.aa i)),bS (aO i) m.an,m.ae,m.Next⟩ else
 (b8 ⟨aQ m.aa i (ba 0),bS (aO i) m.an,m.ae.filter (stays i),m.Next⟩ ⟨0,5,i,0,0,0,eS,false,false,0,(ai m.aa i).ay.filter fun p=>decide (0<p)⟩).1
theorem HM {x:aV} (h:bp x=true):bp (gG x)=true:=by
 simp only [gG]
 cases hl:decide (0<x.Links) with
 | false=>exact h
 | true =>
  simp only [bp,zB,ak,zD,zE] at h hl ⊢
  refine ⟨h.1,⟨by omega,by omega⟩,h.2.2.1,h.2.2.2.1,?_⟩
  have:=h.2.2.2.2
  cases hk:x.Kind != 0 with
  | true=>rfl
  | false =>
   rw [hk,Bool.false_or,beq_iff_eq] at this
   omega
theorem I5 (x:aV):(gG x).ay=x.ay:=by
 simp only [gG]; cases decide (0<x.Links)<;>rfl
theorem wU:bp (ba 0)=true:=by decide
theorem B4 {n:Nat} (hn:bk<=n) (m:Mem) (hm:ej m) (i:Int) (h1:1<=i) (h2:i<=m.aa.ad.length) (hk:within (ai m.aa i).Links 0 200=true) (hp:(ai m.aa i).ay.length<=cM) (k:Mem->Option R) :
  my n i m k=k (iI i m):=by
 have V8:m.ae.length<=2097152:=hm.dp
 have QF:m.aa.ad.length<=2097152:=hm.d.di
 simp only [my,jh,iI]
 cases hc:decide (40<=(m.ae.length:Int)) with
 | true=>rfl
 | false =>
 cases hw:within m.Next 1 99999 with
 | false=>rfl
 | true =>
 rw [ak] at hk
 simp only [zN,zM,zE,zF,Bool.or_false]
 rw [bO (by omega) (by omega),aj (bz h1 h2)]
 have e0:m.aa.ad.getD (i-1).toNat az=ai m.aa i:=rfl
 rw [e0,vW _ hp,gB,dq,qQ]
 have fin:∀ (x:aV),x.ay=(ai m.aa i).ay ->
   eW i m.ae (fun list=>ea (i-1).toNat (m.aa.ad.set (i-1).toNat x) (fun blocks =>
    ey 0 fun Ns=>aK (aZ (i-1) (m.aa.ad.set (i-1).toNat x).length) <|
    hZ n ⟨⟨m.aa.au,(m.aa.ad.set (i-1).toNat x).set (i-1).toNat Ns,m.aa.ab⟩,bS (aO i) m.an,list,m.Next⟩ ⟨0,5,i,0,0,0,eS,false,false,0,blocks⟩ fun aR dT=>k aR) n 0 []) n 0 [] =
   k (b8 ⟨aQ m.aa i (ba 0),bS (aO i) m.an,m.ae.filter (stays i),m.Next⟩ ⟨0,5,i,0,0,0,eS,false,false,0,(ai m.aa i).ay.filter fun p=>decide (0<p)⟩).1:=by
  intro x hx
  have eg:(m.aa.ad.set (i-1).toNat x).getD (i-1).toNat az=x:=by
   rw [zT,List.getElem?_set_self (by omega)]; rfl
  rw [S4 hn i _ hm.dp,Ot hn _ _ (by rw [eg,hx]; exact hp),eg,hx,jz,aj (bz h1 (by rw [List.length_set]; exact h2)),List.set_set]
  rw [nX hn]
  ·rfl
  ·refine ⟨⟨hm.d.bb,hm.d.bi,by show (List.set _ _ _).length<=cM; rw [List.length_set]; exact hm.d.di,hm.d.db,?_,hm.d.pd⟩,by show (bS _ _).length<=cM; rw [cR]; exact hm.dy,Nat.le_trans (List.length_filter_le _ _) hm.dp,fun d hd=>hm.dep d ((List.mem_filter.1 hd).1)⟩
   intro y hy
   rcases mem_set hy with hy | rfl
   ·exact hm.d.ino y hy
   ·show (2:Nat)<=cM; decide
  ·exact Nat.le_trans (List.length_filter_le _ _) hp
 cases hl:decide (0<(ai m.aa i).Links) with
 | false =>
  have ef:gG (ai m.aa i)=ai m.aa i:=by simp only [gG,hl,zF]
  simp only [zF]
  rw [aj (bz h1 h2),ef]
  cases hz:decide (0<(ai m.aa i).Links)||((ai m.aa i).Kind==0) with
  | true=>rw [hl] at hz; simp only [hl,hz,zE]; rfl
  | false =>
   rw [hl] at hz; simp only [hl,hz,zF]
   exact fin _ rfl
 | true =>
  rw [zD] at hl
  have ef:gG (ai m.aa i)=⟨(ai m.aa i).Kind,(ai m.aa i).Links-1,(ai m.aa i).ay⟩:=by simp only [gG,hl,zV,zE]
  simp only [zE]
  rw [aj (bz h1 h2),ef,bT (by omega) (by omega)]
  cases hz:decide (0<(ai m.aa i).Links-1)||((ai m.aa i).Kind==0) with
  | true=>rfl
  | false=>exact fin ⟨(ai m.aa i).Kind,(ai m.aa i).Links-1,(ai m.aa i).ay⟩ rfl
theorem zZ (m:Mem) (d:bG):(b8 m d).1.aa=m.aa:=by
 simp only [b8]; cases dW m<;>rfl
theorem fK.iI {m:Mem} (h:fK m) {i:Int} (h1:1<=i) (h2:i<=8):fK (Soft.iI i m):=by
 simp only [Soft.iI]
 cases hc:decide (40<=(m.ae.length:Int))|| !within m.Next 1 99999 with
 | true=>exact h
 | false =>
  have hx:=h.d.sU h1 h2
  have hpt:∀ d∈m.ae,(d.Kind==1||d.Kind==6)=true->d.Ino=i->((ai m.aa i).ay.getD d.Ptr.toNat 0==d.Block)=true:=by
   intro d hd hk he
   have:=h.yn d hd
   simp only [cG,hk,zE,zB,he] at this
   exact this.2
  simp only [zF]
  cases hz:decide (0<(gG (ai m.aa i)).Links)||((gG (ai m.aa i)).Kind==0) with
  | true =>
   have:=h.nA h1 h2 (HM hx) (fun d hd hk he=>by rw [I5]; exact hpt d hd hk he)
   exact this.bS (aO i)
  | false =>
   have h3:fK { m with ae:=m.ae.filter (stays i) }:=h.less List.filter_sublist
   have h4:=h3.nA h1 h2 wU (fun d hd hk he=>by
    have:=(List.mem_filter.1 hd).2
    simp only [stays,he,beq_self_eq_true,zM,Bool.or_false,zB,Bool.not_eq_true'] at this
    rw [this.1,this.2] at hk
    cases hk)
   have h5:=h4.bS (aO i)
   have hw:within m.Next 1 99999=true:=by
    rw [Bool.or_eq_false_iff] at hc
    simpa using hc.2
   rw [ak] at hw
   refine h5.put _ ?_ ?_ ?_
   ·simp only [bJ,zB,ak]
    refine ⟨⟨by omega,by omega⟩,⟨by decide,by decide⟩,⟨h1,h2⟩,⟨by decide,by decide⟩,⟨by decide,by decide⟩,⟨by decide,by decide⟩,by decide,by omega⟩
   ·rw [List.all_eq_true]
    intro p hp
    rw [List.mem_filter,zD] at hp
    simp only [bp,zB,List.all_eq_true,ak] at hx
    have:=(hx.2.2.2.1 p hp.1).1
    rw [ak]; omega
   ·rfl
theorem yR {S:Type} {L:Nat->Int->S->Option R} {g:Nat->S->S} {q:S->Option R} {B:Nat}
  (hq:∀ m acc,B<m->L m (-1) acc=q acc):∀ (len n:Nat) (acc:S),(∀ m i acc,i<len->B<m->L (m+1) (i:Int) acc=L m ((i:Int)-1) (g i acc))->len+B<n ->
   L n ((len:Int)-1) acc=q ((List.range' 0 len).reverse.foldl (fun a i=>g i a) acc)
 | 0,n,acc,hs,hn=>hq n acc (by omega)
 | len+1,n,acc,hs,hn=>by
  cases n with
  | zero=>omega
  | succ n =>
   have e:((len+1:Nat):Int)-1=(len:Int):=by omega
   rw [e,hs n len acc (by omega) (by omega),yR hq len n _ (fun m i acc hi hm=>hs m i acc (by omega) hm) (by omega)]
   rw [List.range'_concat,List.reverse_append]
   simp
def lD (m:Mem) (p:Int) (s:Nat):Bool :=
 (((((aN m.aa p).ah.getD s aq).Name)==eS)&&(((aN m.aa p).ah.getD s aq).Ino==0))&&(ga m p s==0)
def lV (m:Mem) (p:Int) (acc:Int×Int):Int×Int :=
 bif within p 1 m.aa.ab.length&&(aN m.aa p).cf then (List.range' 0 (aN m.aa p).ah.length).reverse.foldl (fun a s=>bif lD m p s then (p,(s:Int)) else a) acc else acc
def nG (m:Mem) (l:List Int):Int×Int:=(List.range' 0 l.length).reverse.foldl (fun a i=>lV m (l.getD i 0) a) (0,0)
theorem PA {n:Nat} (hn:bk<=n) (m0:Mem) (hm:m0.ae.length<=cM) (x:Nat) (v:Nat) (hx:x<(m0.aa.ad.getD v az).ay.length) (w:Nat)
  (hw:w=(((m0.aa.ad.getD v az).ay.getD x 0)-1).toNat) (hb:(m0.aa.ab.getD w aC).ah.length<=cM) (hd:(m0.aa.ab.getD w aC).cf=true) (q:Int->Int->Option R) (acc:Int×Int) (m:Nat) (Tx:cM<m) :
  fN n (x:Int) true m0.Next v true w m0.aa.au.ab m0.aa.au.bF m0.aa.ad m0.aa.ab m0.an m0.ae q m acc.1 acc.2 (aA (((m0.aa.ab.getD w aC).ah.length:Int)-1)) =
   q ((List.range' 0 (m0.aa.ab.getD w aC).ah.length).reverse.foldl (fun a s=>bif lD m0 ((m0.aa.ad.getD v az).ay.getD x 0) s then ((m0.aa.ad.getD v az).ay.getD x 0,(s:Int)) else a) acc).1
    ((List.range' 0 (m0.aa.ab.getD w aC).ah.length).reverse.foldl (fun a s=>bif lD m0 ((m0.aa.ad.getD v az).ay.getD x 0) s then ((m0.aa.ad.getD v az).ay.getD x 0,(s:Int)) else a) acc).2:=by
 have J0:(m0.aa.ab.getD w aC).ah.length<=2097152:=hb
 have hm2:2097152<m:=Tx
 have ew:m0.aa.ab.getD w aC=aN m0.aa ((m0.aa.ad.getD v az).ay.getD x 0):=by rw [hw]; rfl
 generalize hp:(m0.aa.ad.getD v az).ay.getD x 0=p at ew hw ⊢
 rw [bT (by omega) (by omega)]
 refine yR (R:=R) (S:=Int×Int) (L:=fun m s acc=>fN n (x:Int) true m0.Next v true w m0.aa.au.ab m0.aa.au.bF m0.aa.ad m0.aa.ab m0.an m0.ae q m acc.1 acc.2 s)
  (g:=fun s a=>bif lD m0 p s then (p,(s:Int)) else a) (q:=fun a=>q a.1 a.2) (B:=0) ?_ _ _ _ ?_ (by omega)
 ·intro m acc hm
  cases m with
  | zero=>omega
  | succ m=>rfl
 ·intro m s acc hs _
  have h0:decide ((0:Int)<=(s:Int))=true:=decide_eq_true (by omega)
  simp only [fN,h0,Bool.and_true,zE,aF,hs,hx,zV,bc,Bool.or_true,zC,hp]
  have ed:=Ch (R:=R) hn m0 hm p s
  refine (ed _).trans ?_
  simp only [lD]
  rw [bT (by omega) (by omega),← ew]
  cases ((((m0.aa.ab.getD w aC).ah.getD s aq).Name)==eS)&&(((m0.aa.ab.getD w aC).ah.getD s aq).Ino==0) with
  | false=>rfl
  | true=>cases h:ga m0 p s==0<;>simp [h]
theorem Vm {n:Nat} (hn:bk<=n) (m0:Mem) (hm:ej m0) (v:Nat) (hl:(m0.aa.ad.getD v az).ay.length<=cM) (q:Int->Int->Option R) :
  ik n m0.Next v m0.aa.au.ab m0.aa.au.bF m0.aa.ad m0.aa.ab m0.an m0.ae q n 0 0 (aA (((m0.aa.ad.getD v az).ay.length:Int)-1)) =
   q (nG m0 (m0.aa.ad.getD v az).ay).1 (nG m0 (m0.aa.ad.getD v az).ay).2:=by
 have xX:(m0.aa.ad.getD v az).ay.length<=2097152:=hl
 have TG:m0.aa.ab.length<=2097152:=hm.d.db
 have NZ:100000000<=n:=hn
 rw [bT (by omega) (by omega)]
 refine yR (R:=R) (S:=Int×Int) (L:=fun m x acc=>ik n m0.Next v m0.aa.au.ab m0.aa.au.bF m0.aa.ad m0.aa.ab m0.an m0.ae q m acc.1 acc.2 x)
  (g:=fun i a=>lV m0 ((m0.aa.ad.getD v az).ay.getD i 0) a) (q:=fun a=>q a.1 a.2) (B:=2097152) ?_ _ n (0,0) ?_ (by omega)
 ·intro m acc hm
  cases m with
  | zero=>omega
  | succ m=>rfl
 ·intro m x acc hx Tx
  have h0:decide ((0:Int)<=(x:Int))=true:=decide_eq_true (by omega)
  obtain ⟨m',rfl⟩:∃ m',m=m'+1:=⟨m-1,by omega⟩
  rw [ik]
  simp only [h0,zE,aF,hx,zV,bc,zC,ti,jh]
  rw [bT (n:=(x:Int)-1) (by omega) (by omega)]
  generalize hp:(m0.aa.ad.getD v az).ay.getD x 0=p
  cases hw:within p 1 (m0.aa.ab.length:Int) with
  | false =>
   have e:lV m0 p acc=acc:=by simp only [lV,hw,Bool.false_and,zF]
   rw [e]
   simp only [zN,zE,mQ,Bool.and_false,Bool.false_and,zF]
  | true =>
   have ZH:=ak.1 hw
   simp only [zM,zF]
   rw [bO (by omega) (by omega),aj (bz ZH.1 ZH.2)]
   have eb:m0.aa.ab.getD (p-1).toNat aC=aN m0.aa p:=rfl
   have mH:=hm.d.pd _ (aU aC (l:=m0.aa.ab) (i:=(p-1).toNat) (by omega))
   cases hd:(aN m0.aa p).cf with
   | false =>
    have e:lV m0 p acc=acc:=by simp only [lV,hw,hd,Bool.and_false,zF]
    rw [e,eb,hd]
    simp only [fN,Bool.and_false,Bool.false_and,zF]
   | true =>
    have e:lV m0 p acc=(List.range' 0 (aN m0.aa p).ah.length).reverse.foldl (fun a s=>bif lD m0 p s then (p,(s:Int)) else a) acc:=by simp only [lV,hw,hd,Bool.and_true,zE]
    rw [e,eb,hd]
    have:=PA (R:=R) hn m0 hm.dp x v hx (p-1).toNat (by rw [hp]) mH.1 (by rw [eb,hd])
     (fun Ga J2=>ik n m0.Next v m0.aa.au.ab m0.aa.au.bF m0.aa.ad m0.aa.ab m0.an m0.ae q (m'+1) Ga J2 ((x:Int)-1)) acc (m'+1) Tx
    rw [hp,eb] at this
    exact this
structure oz (m:Mem) (p s:Int):Prop where
 p1:1<=p
 p2:p<=m.aa.ab.length
 dir:(aN m.aa p).cf=true
 s0:0<=s
 s1:s<(aN m.aa p).ah.length
 free:lD m p s.toNat=true
theorem PM {m:Mem} {p:Int} {acc:Int×Int} (h:acc=(0,0)\/oz m acc.1 acc.2):lV m p acc=(0,0)\/oz m (lV m p acc).1 (lV m p acc).2:=by
 simp only [lV]
 cases hc:within p 1 m.aa.ab.length&&(aN m.aa p).cf with
 | false=>exact h
 | true =>
  rw [zB,ak] at hc
  simp only [zE]
  have:∀ (l:List Nat) (acc:Int×Int),(∀ s∈l,s<(aN m.aa p).ah.length)->(acc=(0,0)\/oz m acc.1 acc.2) ->
    (l.foldl (fun a (s:Nat)=>bif lD m p s then (p,(s:Int)) else a) acc=(0,0)\/oz m (l.foldl (fun a (s:Nat)=>bif lD m p s then (p,(s:Int)) else a) acc).1 (l.foldl (fun a (s:Nat)=>bif lD m p s then (p,(s:Int)) else a) acc).2):=by
   intro l
   induction l with
   | nil=>intro acc _ h; exact h
   | cons s l ih =>
    intro acc hl h
    rw [List.foldl_cons]
    refine ih _ (fun s hs=>hl s (zJ _ hs)) ?_
    cases hf:lD m p s with
    | false=>exact h
    | true=>exact Or.inr ⟨hc.1.1,hc.1.2,hc.2,by show (0:Int)<=(s:Int); omega,by show (s:Int)<((aN m.aa p).ah.length:Int); have:=hl s (zO ..); omega,hf⟩
  refine this _ acc (fun s hs=> ?_) h
  rw [List.mem_reverse,List.mem_range'] at hs
  obtain ⟨i,hi,rfl⟩:=hs
  omega
theorem Be (m:Mem) (l:List Int):nG m l=(0,0)\/oz m (nG m l).1 (nG m l).2:=by
 have:∀ (r:List Nat) (acc:Int×Int),(acc=(0,0)\/oz m acc.1 acc.2)->(r.foldl (fun a i=>lV m (l.getD i 0) a) acc=(0,0)\/oz m (r.foldl (fun a i=>lV m (l.getD i 0) a) acc).1 (r.foldl (fun a i=>lV m (l.getD i 0) a) acc).2):=by
  intro r
  induction r with
  | nil=>intro acc h; exact h
  | cons i r ih=>intro acc h; rw [List.foldl_cons]; exact ih _ (PM h)
 exact this _ (0,0) (Or.inl rfl)
def pV (s:Slot):Bool:=(s.Name==eS&&s.Ino==0)||(bN s.Name&&within s.Ino 1 8)
def gw (b:Block):Bool:=bif b.cf then (b.ah.length==4&&b.Text==eS)&&b.ah.all pV else b.ah.length==0&&decide (b.Text.size<=16)
theorem L2 {b:Block} (h:bA b=true):gw b=true:=by
 simp only [bA,gw] at h ⊢
 cases hd:b.cf with
 | false=>rw [hd] at h; exact h
 | true =>
  simp only [hd,zE,zB] at h ⊢
  refine ⟨h.1,?_⟩
  rw [List.all_eq_true]
  intro s hs
  obtain ⟨i,hi,rfl⟩:=List.mem_iff_getElem.1 hs
  have h4:b.ah.length=4:=by simpa using h.1.1
  have:=mz h.2 (i:=i) (by omega)
  simp only [rY,Bool.or_eq_true,zB,fq _ _ hi] at this
  simp only [pV,Bool.or_eq_true,zB]
  exact this.imp id (fun h=>h.1)
theorem Eb {b:Block} (h:gw b=true):ur b:=by
 simp only [gw] at h
 cases hd:b.cf with
 | false =>
  simp only [hd,zF,zB,beq_iff_eq,zD] at h
  have h0:b.ah=[]:=List.length_eq_zero_iff.1 h.1
  exact ⟨by rw [h0]; exact Nat.zero_le _,Nat.le_trans h.2 (by decide),by rw [h0]; intro s hs; cases hs⟩
 | true =>
  simp only [hd,zE,zB,beq_iff_eq,List.all_eq_true] at h
  obtain ⟨⟨h1,h2⟩,h3⟩:=h
  refine ⟨by rw [h1]; decide,by rw [h2]; decide,fun s hs=> ?_⟩
  have:=h3 s hs
  simp only [pV,Bool.or_eq_true,zB,beq_iff_eq] at this
  rcases this with h | h
  ·show s.Name.size<=cM; rw [h.1]; decide
  ·exact Nat.le_trans (eY h.1).2 (by decide)
theorem dm {b:Block} (h:gw b=true) (hd:b.cf=true):b.ah.length=4:=by
 simp only [gw,hd,zE,zB,beq_iff_eq] at h
 exact h.1.1
theorem tt {b:Block} (h:gw b=true) (hd:b.cf=true) {s:Slot} (hs:s∈b.ah):pV s=true:=by
 simp only [gw,hd,zE,zB,List.all_eq_true] at h
 exact h.2 s hs
theorem vO {b:Block} (h:gw b=true) (hd:b.cf=true) (i:Nat) {s:Slot} (hs:pV s=true):gw ⟨b.cf,b.ah.set i s,b.Text⟩=true:=by
 simp only [gw,hd,zE,zB,List.all_eq_true,List.length_set] at h ⊢
 exact ⟨h.1,fun x hx=>(mem_set hx).elim (h.2 x) (fun e=>e▸hs)⟩
structure cJ (d:aa):Prop where
 bb:d.au.ab.length=16
 bi:d.au.bF.length=8
 di:d.ad.length=8
 db:d.ab.length=16
 ino:∀ x∈d.ad,bp x=true
 pd:∀ b∈d.ab,gw b=true
theorem lH.t {d:aa} (h:lH d):cJ d:=⟨h.bb,h.bi,h.di,h.db,h.ino,fun b hb=>L2 (h.pd b hb)⟩
theorem cJ.sz {d:aa} (h:cJ d):ja d:=by
 refine ⟨by rw [h.bb]; decide,by rw [h.bi]; decide,by rw [h.di]; decide,by rw [h.db]; decide,fun x hx=> ?_,fun b hb=>Eb (h.pd b hb)⟩
 show x.ay.length<=cM
 rw [jD (h.ino x hx)]; decide
theorem cJ.sU {d:aa} (h:cJ d) {i:Int} (h1:1<=i) (h2:i<=8):bp (ai d i)=true:=h.ino _ (aU az (by rw [h.di]; omega))
theorem cJ.nM {d:aa} (h:cJ d) {p:Int} (h1:1<=p) (h2:p<=16):gw (aN d p)=true:=h.pd _ (aU aC (by rw [h.db]; omega))
theorem cJ.sd {d:aa} (h:cJ d) {i:Int} (h1:1<=i) (h2:i<=8):(ai d i).ay.length=2:=jD (h.sU h1 h2)
structure cE (m:Mem):Prop where
 d:cJ m.aa
 dy:m.an.length=21
 dp:m.ae.length<=40
 n1:1<=m.Next
 n2:m.Next<=100000
 num:∀ x∈m.ae,bJ m x=true
 bs:∀ x∈m.ae,x.ab.all (fun p=>within p 1 16)=true
 sz:∀ x∈m.ae,nH x
theorem cE.Fv {m:Mem} (h:cE m):ej m:=⟨h.d.sz,by rw [h.dy]; decide,Nat.le_trans h.dp (by decide),h.sz⟩
theorem cE.bK {m:Mem} (h:cE m) {y:List Bool} (hy:y.length=21):cE { m with an:=y }:=⟨h.d,hy,h.dp,h.n1,h.n2,h.num,h.bs,h.sz⟩
theorem cE.mark {m:Mem} (h:cE m) (u:Int):cE { m with an:=bS u m.an }:=h.bK ((cR u _).trans h.dy)
theorem cE.ym {m:Mem} (h:cE m) {d:aa} (hd:cJ d):cE { m with aa:=d }:=⟨hd,h.dy,h.dp,h.n1,h.n2,h.num,h.bs,h.sz⟩
theorem cE.less {m:Mem} (h:cE m) {l:List bG} (hl:l.Sublist m.ae):cE { m with ae:=l } :=
 ⟨h.d,h.dy,Nat.le_trans hl.length_le h.dp,h.n1,h.n2,fun x hx=>h.num x (hl.subset hx),fun x hx=>h.bs x (hl.subset hx),fun x hx=>h.sz x (hl.subset hx)⟩
theorem cE.drop {m:Mem} (h:cE m) (id:Int):cE (bd m id):=h.less List.filter_sublist
theorem cE.put {m:Mem} (h:cE m) (d:bG) (hn:bJ { m with Next:=m.Next+1 } { d with Id:=m.Next }=true) (hb:d.ab.all (fun p=>within p 1 16)=true) (hs:nH d):cE (b8 m d).1:=by
 simp only [b8]
 cases hp:dW m with
 | false=>exact h
 | true =>
  simp only [dW,zB,zD,ak] at hp
  have eP:∀ x∈m.ae++[{ d with Id:=m.Next }],x∈m.ae\/x={ d with Id:=m.Next }:=by
   intro x hx
   simpa using hx
  refine ⟨h.d,h.dy,?_,?_,?_,?_,?_,?_⟩
  ·show (m.ae++[_]).length<=40
   rw [zK,zL]; omega
  ·show 1<=m.Next+1; omega
  ·show m.Next+1<=100000; omega
  ·intro x hx
   rcases eP x hx with hx | rfl
   ·exact wz (m:=m) (by show m.Next<=m.Next+1; omega) (h.num x hx)
   ·exact hn
  ·intro x hx
   rcases eP x hx with hx | rfl
   ·exact h.bs x hx
   ·exact hb
  ·intro x hx
   rcases eP x hx with hx | rfl
   ·exact h.sz x hx
   ·exact hs
theorem cJ.nA {d:aa} (h:cJ d) (i:Int) {x:aV} (hx:bp x=true):cJ (aQ d i x) :=
 ⟨h.bb,h.bi,List.length_set.trans h.di,h.db,fun y hy=>(mem_set hy).elim (h.ino y) (fun e=>e▸hx),h.pd⟩
theorem cJ.p8 {d:aa} (h:cJ d) (p:Int) {b:Block} (hb:gw b=true):cJ (ch d p b) :=
 ⟨h.bb,h.bi,h.di,List.length_set.trans h.db,h.ino,fun y hy=>(mem_set hy).elim (h.pd y) (fun e=>e▸hb)⟩
theorem cJ.tR {d:aa} (h:cJ d) {bb bi:List Bool} (h1:bb.length=16) (h2:bi.length=8):cJ { d with au:=⟨bb,bi⟩ } :=
 ⟨h1,h2,h.di,h.db,h.ino,h.pd⟩
theorem cE.iI {m:Mem} (h:cE m) {i:Int} (h1:1<=i) (h2:i<=8):cE (Soft.iI i m):=by
 simp only [Soft.iI]
 cases hc:decide (40<=(m.ae.length:Int))|| !within m.Next 1 99999 with
 | true=>exact h
 | false =>
  have hx:=h.d.sU h1 h2
  simp only [zF]
  cases hz:decide (0<(gG (ai m.aa i)).Links)||((gG (ai m.aa i)).Kind==0) with
  | true=>exact (h.ym (h.d.nA i (HM hx))).mark (aO i)
  | false =>
   have h3:cE { m with ae:=m.ae.filter (stays i) }:=h.less List.filter_sublist
   have h5:=(h3.ym (h.d.nA i wU)).mark (aO i)
   have hw:within m.Next 1 99999=true:=by
    rw [Bool.or_eq_false_iff] at hc
    simpa using hc.2
   rw [ak] at hw
   refine h5.put _ ?_ ?_ ⟨by show eS.size<=cM; decide,Nat.le_trans (List.length_filter_le _ _) (by rw [h.d.sd h1 h2]; decide)⟩
   ·simp only [bJ,zB,ak]
    refine ⟨⟨by omega,by omega⟩,⟨by decide,by decide⟩,⟨h1,h2⟩,⟨by decide,by decide⟩,⟨by decide,by decide⟩,⟨by decide,by decide⟩,by decide,by omega⟩
   ·rw [List.all_eq_true]
    intro p hp
    rw [List.mem_filter,zD] at hp
    simp only [bp,zB,List.all_eq_true,ak] at hx
    have:=(hx.2.2.2.1 p hp.1).1
    rw [ak]; omega
theorem Ou (id after:Int) (y:List Bool) (d:bG):(A1 id after y d).length=y.length:=by
 simp only [A1]
 cases ((d.Kind==4)&&(d.bx==id))&&(after==0) with
 | false=>rfl
 | true=>exact cR _ _
theorem yL (id after:Int) (l:List bG):∀ y:List Bool,(l.foldl (A1 id after) y).length=y.length:=by
 induction l with
 | nil=>intro y; rfl
 | cons d l ih=>intro y; rw [List.foldl_cons,ih,Ou]
theorem cE.shown {m:Mem} (h:cE m) (id after:Int) (h1:0<=after) (h2:after<=m.Next-1):cE (Soft.shown id after m):=by
 have h':=h.drop id
 have eP:∀ x∈(bd m id).ae.map (eZ id after),∃ y∈(bd m id).ae,x=y\/x={ y with bx:=after }:=by
  intro x hx
  obtain ⟨y,hy,rfl⟩:=List.mem_map.1 hx
  refine ⟨y,hy,?_⟩
  simp only [eZ]
  cases (y.Kind==4)&&(y.bx==id) with
  | false=>exact Or.inl rfl
  | true=>exact Or.inr rfl
 refine ⟨h.d,(yL id after _ _).trans h.dy,by show (List.map _ _).length<=40; rw [List.length_map]; exact h'.dp,h.n1,h.n2,fun x hx=> ?_,fun x hx=> ?_,fun x hx=> ?_⟩
 ·obtain ⟨y,hy,e | e⟩:=eP x hx
  ·subst e; exact h'.num _ hy
  ·have:=h'.num _ hy
   subst e
   simp only [bJ,zB,ak] at this ⊢
   exact ⟨this.1,this.2.1,this.2.2.1,this.2.2.2.1,this.2.2.2.2.1,this.2.2.2.2.2.1,h1,h2⟩
 ·obtain ⟨y,hy,e | e⟩:=eP x hx
  ·subst e; exact h'.bs _ hy
  ·subst e; exact h'.bs y hy
 ·obtain ⟨y,hy,e | e⟩:=eP x hx
  ·subst e; exact h'.sz _ hy
  ·subst e; exact h'.sz y hy
theorem oY {m:Mem} (h:cE m):cE (aX m).1/\(aX m).1.Next=m.Next/\(aX m).1.ae=m.ae/\((aX m).2==0\/(1<=(aX m).2/\(aX m).2<=16))/\(aX m).1.aa.ad=m.aa.ad/\(aX m).1.aa.ab=m.aa.ab:=by
 simp only [aX]
 cases hf:firstFree m.aa.au.ab==0 with
 | true=>exact ⟨h,rfl,rfl,Or.inl rfl,rfl,rfl⟩
 | false =>
  have hr:=kF _ hf
  have hl:=h.d.bb
  simp only [zF]
  rw [qQ]
  exact ⟨(h.ym (h.d.tR (bb:=m.aa.au.ab.set (firstFree m.aa.au.ab-1).toNat true) (bi:=m.aa.au.bF) (List.length_set.trans h.d.bb) h.d.bi)).mark 0,rfl,rfl,Or.inr ⟨hr.1,by omega⟩,rfl,rfl⟩
theorem F3 {m:Mem} (h:cE m):cE (aT m).1/\(aT m).1.Next=m.Next/\(aT m).1.ae=m.ae/\((aT m).2==0\/(1<=(aT m).2/\(aT m).2<=8))/\(aT m).1.aa.ad=m.aa.ad/\(aT m).1.aa.ab=m.aa.ab:=by
 simp only [aT]
 cases hf:firstFree m.aa.au.bF==0 with
 | true=>exact ⟨h,rfl,rfl,Or.inl rfl,rfl,rfl⟩
 | false =>
  have hr:=kF _ hf
  have hl:=h.d.bi
  simp only [zF]
  rw [qQ]
  exact ⟨(h.ym (h.d.tR (bb:=m.aa.au.ab) (bi:=m.aa.au.bF.set (firstFree m.aa.au.bF-1).toNat true) h.d.bb (List.length_set.trans h.d.bi))).mark 0,rfl,rfl,Or.inr ⟨hr.1,by omega⟩,rfl,rfl⟩
def bX (l:List Int):Nat:=(l.takeWhile fun p=> !(p==0)).length
theorem rn (l:List Int):bX l<=l.length:=by
 induction l with
 | nil=>exact Nat.le_refl _
 | cons a l ih =>
  simp only [bX] at ih ⊢
  rw [List.takeWhile_cons]
  cases !(a==0) with
  | false=>simp
  | true=>simp only [if_true,zR]; omega
theorem S6 (v:Nat) (di:List aV) (hl:(di.getD v az).ay.length<=2097152) (q:Int->Option R) :
  ∀ (r:List Int) (j m:Nat),r=(di.getD v az).ay.drop j->j<=(di.getD v az).ay.length->r.length<m->jN v di q m (j:Int)=q ((j+bX r:Nat):Int):=by
 intro r
 induction r with
 | nil =>
  intro j m hr hj hm
  cases m with
  | zero=>omega
  | succ m =>
   have hlen:=congrArg List.length hr
   rw [List.length_nil,List.length_drop] at hlen
   have:¬ j<(di.getD v az).ay.length:=by omega
   simp only [jN,bh,this,decide_false,zN,Bool.true_or,bc,Bool.false_and,zF]
   rfl
 | cons a r ih =>
  intro j m hr hj hm
  cases m with
  | zero=>omega
  | succ m =>
   have hlen:=congrArg List.length hr
   rw [zR,List.length_drop] at hlen
   have fW:j<(di.getD v az).ay.length:=by omega
   rw [cQ 0 fW,List.cons.injEq] at hr
   simp only [jN,bh,aF,fW,zV,zM,Bool.false_or,bc,Bool.true_and,zC]
   rw [← hr.1,bL (by omega)]
   simp only [bX]
   rw [List.takeWhile_cons]
   cases hc: !(a==0) with
   | false=>rfl
   | true =>
    simp only [zE,if_true,zR]
    rw [ih (j+1) m hr.2 (by omega) (by simp only [zR] at hm; omega)]
    simp only [bX]
    congr 1
    omega
def gR (x:aV) (i:Nat) (p:Int):aV:=⟨x.Kind,x.Links,x.ay.set i p⟩
def ff (b:Block) (s:Nat) (x:Slot):Block:=⟨b.cf,b.ah.set s x,b.Text⟩
def setName (m:Mem) (p s:Int) (name:ByteArray) (ino:Int):Mem×Int :=
 b8 ⟨ch m.aa p (ff (aN m.aa p) s.toNat ⟨name,ino⟩),bS 0 (bS (aG p) m.an),m.ae,m.Next⟩ ⟨0,2,ino,0,p,s,eS,false,false,0,[]⟩
def dw (m:Mem) (dir:Int) (x:Nat) (r:Int):Mem :=
 (b8 ⟨aQ (ch m.aa r ⟨true,List.replicate 4 aq,eS⟩) dir (gR (ai m.aa dir) x r),bS (aO dir) (bS (aG r) m.an),m.ae,m.Next⟩ ⟨0,1,dir,x,r,0,eS,false,false,0,[]⟩).1
def dR (m:Mem) (dir:Int) (name:ByteArray) (ino:Int):Mem×Int :=
 bif (nG m (ai m.aa dir).ay).1==0 then
  bif bX (ai m.aa dir).ay==(ai m.aa dir).ay.length then (m,0) else
  bif (aX m).2==0 then (m,0) else
  setName (dw (aX m).1 dir (bX (ai m.aa dir).ay) (aX m).2) (aX m).2 0 name ino
 else setName m (nG m (ai m.aa dir).ay).1 (nG m (ai m.aa dir).ay).2 name ino
theorem DQ {m:Mem} (h:1<=m.Next) (d:bG):0<=(b8 m d).2/\(b8 m d).2<=(b8 m d).1.Next-1/\m.Next<=(b8 m d).1.Next:=by
 simp only [b8]
 cases dW m with
 | false=>simp only [zF]; omega
 | true=>simp only [zE]; omega
theorem cE.setName {m:Mem} (h:cE m) {p s ino:Int} {name:ByteArray} (p1:1<=p) (p2:p<=16) (hd:(aN m.aa p).cf=true) (s0:0<=s) (s1:s<=3) (hs:bN name=true) (i1:1<=ino) (i2:ino<=8) :
  cE (Soft.setName m p s name ino).1:=by
 have hb:gw (ff (aN m.aa p) s.toNat ⟨name,ino⟩)=true:=vO (h.d.nM p1 p2) hd _ (by
  simp only [pV,Bool.or_eq_true,zB,ak]
  exact Or.inr ⟨hs,i1,i2⟩)
 have h1:=((h.ym (h.d.p8 p hb)).mark (aG p)).mark 0
 have n1:=h.n1
 refine h1.put _ ?_ rfl ⟨by show eS.size<=cM; decide,Nat.zero_le _⟩
 simp only [bJ,zB,ak]
 refine ⟨⟨by omega,by omega⟩,⟨by decide,by decide⟩,⟨i1,i2⟩,⟨by decide,by decide⟩,⟨by omega,p2⟩,⟨s0,s1⟩,by decide,by omega⟩
theorem pS {x:aV} (h:bp x=true) (hk:x.Kind≠0) (i:Nat) {p:Int} (p1:0<=p) (p2:p<=16):bp (gR x i p)=true:=by
 have hb:(x.Kind != 0)=true:=by simpa using hk
 simp only [bp,gR,zB,ak,List.length_set,List.all_eq_true] at h ⊢
 refine ⟨h.1,h.2.1,h.2.2.1,fun y hy=> ?_,h.2.2.2.2⟩
 rcases mem_set hy with hy | rfl
 ·exact h.2.2.2.1 y hy
 ·exact ⟨⟨p1,p2⟩,by rw [hb]; rfl⟩
theorem IV {d:aa} (h:d.ab.length=16) {p:Int} (p1:1<=p) (p2:p<=16) (b:Block):aN (ch d p b) p=b:=by
 have:=yq (d:=d) (l:=d.ab) (i:=p) (j:=p) (x:=b) p1 (by omega) p1
 rw [beq_self_eq_true,zE] at this
 exact this
theorem cE.dw {m:Mem} (h:cE m) {dir r:Int} {x:Nat} (d1:1<=dir) (d2:dir<=8) (hk:(ai m.aa dir).Kind≠0) (hx:x<=1) (r1:1<=r) (r2:r<=16) :
  cE (Soft.dw m dir x r)/\aN (Soft.dw m dir x r).aa r=⟨true,List.replicate 4 aq,eS⟩:=by
 have hb:gw ⟨true,List.replicate 4 aq,eS⟩=true:=by decide
 have h1:=(((h.ym ((h.d.p8 r hb).nA dir (pS (h.d.sU d1 d2) hk x (by omega:(0:Int)<=r) r2))).mark (aG r)).mark (aO dir))
 have n1:=h.n1
 constructor
 ·refine h1.put _ ?_ rfl ⟨by show eS.size<=cM; decide,Nat.zero_le _⟩
  simp only [bJ,zB,ak]
  refine ⟨⟨by omega,by omega⟩,⟨by decide,by decide⟩,⟨d1,d2⟩,⟨by omega,by omega⟩,⟨by omega,r2⟩,⟨by decide,by decide⟩,by decide,by omega⟩
 ·simp only [Soft.dw]
  rw [zZ]
  exact IV h.d.db r1 r2 _
theorem D4 {n:Nat} (hn:bk<=n) (m:Mem) (h:cE m) {dir ino:Int} (d1:1<=dir) (d2:dir<=8) (hk:(ai m.aa dir).Kind≠0) {name:ByteArray} (hs:bN name=true) (i1:1<=ino) (i2:ino<=8) (k:Int->Mem->Option R) :
  qx n dir name ino m k=k (dR m dir name ino).2 (dR m dir name ino).1:=by
 have QF:=h.d.di
 have TG:=h.d.db
 have LJ:=h.d.sd d1 d2
 have e0:m.aa.ad.getD (dir-1).toNat az=ai m.aa dir:=rfl
 simp only [qx]
 rw [bO (by omega) (by omega),aj (bz d1 (by omega)),Vm hn m h.Fv _ (by rw [e0,LJ]; decide),e0]
 simp only [dR]
 have last:∀ (m:Mem) (h:cE m) (p s:Int) (p1:1<=p) (p2:p<=16) (hd:(aN m.aa p).cf=true) (s0:0<=s) (s1:s<=3),
   (aK (aZ (p-1) m.aa.ab.length)<|aK (aZ s (((m.aa.ab.getD (p-1).toNat aC).ah).length)) <|
    bY p fun AH =>
    ca AH ⟨⟨m.aa.au,m.aa.ad,m.aa.ab.set (p-1).toNat ⟨(m.aa.ab.getD (p-1).toNat aC).cf,((m.aa.ab.getD (p-1).toNat aC).ah).set s.toNat ⟨name,ino⟩,(m.aa.ab.getD (p-1).toNat aC).Text⟩⟩,m.an,m.ae,m.Next⟩ fun Qw =>
    ca 0 ⟨⟨m.aa.au,m.aa.ad,m.aa.ab.set (p-1).toNat ⟨(m.aa.ab.getD (p-1).toNat aC).cf,((m.aa.ab.getD (p-1).toNat aC).ah).set s.toNat ⟨name,ino⟩,(m.aa.ab.getD (p-1).toNat aC).Text⟩⟩,Qw.an,m.ae,Qw.Next⟩ fun Qk =>
    hZ n ⟨⟨m.aa.au,m.aa.ad,m.aa.ab.set (p-1).toNat ⟨(m.aa.ab.getD (p-1).toNat aC).cf,((m.aa.ab.getD (p-1).toNat aC).ah).set s.toNat ⟨name,ino⟩,(m.aa.ab.getD (p-1).toNat aC).Text⟩⟩,Qk.an,m.ae,Qk.Next⟩ ⟨0,2,ino,0,p,s,eS,false,false,0,[]⟩ fun uY uR =>
    k uR uY)=k (setName m p s name ino).2 (setName m p s name ino).1:=by
  intro m h p s p1 p2 hd s0 s1
  have TG:=h.d.db
  have e1:m.aa.ab.getD (p-1).toNat aC=aN m.aa p:=rfl
  have hb:gw (ff (aN m.aa p) s.toNat ⟨name,ino⟩)=true:=vO (h.d.nM p1 p2) hd _ (by
   simp only [pV,Bool.or_eq_true,zB,ak]
   exact Or.inr ⟨hs,i1,i2⟩)
  rw [aj (bz p1 (by omega)),e1,aj (by rw [dm (h.d.nM p1 p2) hd]; simp only [aZ,zB,zD]; omega),eB,dq,jS,dq,jS]
  refine (nX hn _ (((h.ym (h.d.p8 p hb)).mark (aG p)).mark 0).Fv _ (Nat.zero_le _) _).trans ?_
  rfl
 rcases Be m (ai m.aa dir).ay with e | f
 ·rw [e]
  simp only [beq_self_eq_true,zE]
  have h16:=S6 (R:=R) (dir-1).toNat m.aa.ad (by rw [e0,LJ]; decide)
  rw [e0] at h16
  refine (h16 _ (ai m.aa dir).ay 0 n rfl (Nat.zero_le _) (by rw [LJ]; exact aH hn (by decide))).trans ?_
  rw [Nat.zero_add,cB]
  have hz:=rn (ai m.aa dir).ay
  cases hc:bX (ai m.aa dir).ay==(ai m.aa dir).ay.length with
  | true=>rfl
  | false =>
   have fW:bX (ai m.aa dir).ay<2:=by
    have:¬ bX (ai m.aa dir).ay=(ai m.aa dir).ay.length:=by simpa using hc
    omega
   simp only [zF]
   rw [wY hn m h.Fv]
   obtain ⟨t,t1,t2,t3,t4,t5⟩:=oY h
   cases hr:(aX m).2==0 with
   | true=>rfl
   | false =>
    have cC:1<=(aX m).2/\(aX m).2<=16:=t3.resolve_left (by rw [hr]; decide)
    have J4:ai (aX m).1.aa dir=ai m.aa dir:=by simp only [ai,t4]
    have jf:(ai (aX m).1.aa dir).Kind≠0:=by rw [J4]; exact hk
    obtain ⟨g,gb⟩:=t.dw (x:=bX (ai m.aa dir).ay) d1 d2 jf (by omega) cC.1 cC.2
    generalize aX m=tb at *
    simp only [zF]
    rw [yU,bO (by omega) (by omega),aj (bz cC.1 (by rw [t.d.db]; exact cC.2)),aj (bz d1 (by rw [t.d.di]; exact d2))]
    have e2:tb.1.aa.ad.getD (dir-1).toNat az=ai tb.1.aa dir:=rfl
    rw [e2,aj (by rw [t.d.sd d1 d2]; simp only [aZ,zB,zD]; omega),eB,dq,jS,gB,dq,jS,zC]
    have hb:gw ⟨true,List.replicate 4 aq,eS⟩=true:=by decide
    have h1:=(((t.ym ((t.d.p8 tb.2 hb).nA dir (pS (t.d.sU d1 d2) jf (bX (ai m.aa dir).ay) (by omega:(0:Int)<=tb.2) cC.2))).mark (aG tb.2)).mark (aO dir))
    refine (nX hn _ h1.Fv _ (Nat.zero_le _) _).trans ?_
    exact last (dw tb.1 dir (bX (ai m.aa dir).ay) tb.2) g tb.2 0 cC.1 cC.2 (by rw [gb]) (by decide) (by decide)
 ·generalize nG m (ai m.aa dir).ay=a at f
  have cT:(a.1==0)=false:=by have:=f.p1; simp; omega
  have p2:=f.p2
  have s1:=f.s1
  rw [TG] at p2
  rw [dm (h.d.nM f.p1 p2) f.dir] at s1
  simp only [cT,zF]
  have p1:=f.p1
  rw [bO (by omega) (by omega)]
  exact last m h a.1 a.2 f.p1 p2 f.dir f.s0 (by omega)
theorem Cg {m:Mem} (h:1<=m.Next) (p s:Int) (name:ByteArray) (ino:Int):0<=(setName m p s name ino).2/\(setName m p s name ino).2<=(setName m p s name ino).1.Next-1/\m.Next<=(setName m p s name ino).1.Next :=
 DQ (m:=⟨ch m.aa p (ff (aN m.aa p) s.toNat ⟨name,ino⟩),bS 0 (bS (aG p) m.an),m.ae,m.Next⟩) h ⟨0,2,ino,0,p,s,eS,false,false,0,[]⟩
theorem Fc {m:Mem} (h:1<=m.Next) (dir:Int) (x:Nat) (r:Int):m.Next<=(dw m dir x r).Next :=
 (DQ (m:=⟨aQ (ch m.aa r ⟨true,List.replicate 4 aq,eS⟩) dir (gR (ai m.aa dir) x r),bS (aO dir) (bS (aG r) m.an),m.ae,m.Next⟩) h ⟨0,1,dir,x,r,0,eS,false,false,0,[]⟩).2.2
theorem cE.dR {m:Mem} (h:cE m) {dir ino:Int} (d1:1<=dir) (d2:dir<=8) (hk:(ai m.aa dir).Kind≠0) {name:ByteArray} (hs:bN name=true) (i1:1<=ino) (i2:ino<=8) :
  cE (Soft.dR m dir name ino).1/\0<=(Soft.dR m dir name ino).2/\(Soft.dR m dir name ino).2<=(Soft.dR m dir name ino).1.Next-1/\m.Next<=(Soft.dR m dir name ino).1.Next:=by
 have TG:=h.d.db
 have LJ:=h.d.sd d1 d2
 have n1:=h.n1
 simp only [Soft.dR]
 rcases Be m (ai m.aa dir).ay with e | f
 ·rw [e]
  simp only [beq_self_eq_true,zE]
  have hz:=rn (ai m.aa dir).ay
  cases hc:bX (ai m.aa dir).ay==(ai m.aa dir).ay.length with
  | true=>exact ⟨h,Int.le_refl 0,by simp only [zE]; omega,Int.le_refl _⟩
  | false =>
   have fW:bX (ai m.aa dir).ay<2:=by
    have:¬ bX (ai m.aa dir).ay=(ai m.aa dir).ay.length:=by simpa using hc
    omega
   simp only [zF]
   obtain ⟨t,t1,t2,t3,t4,t5⟩:=oY h
   cases hr:(aX m).2==0 with
   | true=>exact ⟨h,Int.le_refl 0,by simp only [zE]; omega,Int.le_refl _⟩
   | false =>
    have cC:1<=(aX m).2/\(aX m).2<=16:=t3.resolve_left (by rw [hr]; decide)
    have J4:ai (aX m).1.aa dir=ai m.aa dir:=by simp only [ai,t4]
    have jf:(ai (aX m).1.aa dir).Kind≠0:=by rw [J4]; exact hk
    obtain ⟨g,gb⟩:=t.dw (x:=bX (ai m.aa dir).ay) d1 d2 jf (by omega) cC.1 cC.2
    have gn:(aX m).1.Next<=(Soft.dw (aX m).1 dir (bX (ai m.aa dir).ay) (aX m).2).Next:=Fc t.n1 _ _ _
    have si:=Cg g.n1 (aX m).2 0 name ino
    exact ⟨g.setName cC.1 cC.2 (by rw [gb]) (by decide) (by decide) hs i1 i2,si.1,si.2.1,by simp only [zF]; omega⟩
 ·generalize nG m (ai m.aa dir).ay=a at f
  have cT:(a.1==0)=false:=by have:=f.p1; simp; omega
  have p2:=f.p2
  have s1:=f.s1
  rw [TG] at p2
  rw [dm (h.d.nM f.p1 p2) f.dir] at s1
  simp only [cT,zF]
  have si:=Cg n1 a.1 a.2 name ino
  exact ⟨h.setName f.p1 p2 f.dir f.s0 (by omega) hs i1 i2,si.1,si.2.1,si.2.2⟩
def nJ (m:Mem) (p s:Int):Mem:=⟨ch m.aa p (ff (aN m.aa p) s.toNat ⟨eS,0⟩),bS (aG p) m.an,m.ae,m.Next⟩
def pZ (m:Mem) (p s:Int):Slot:=(aN m.aa p).ah.getD s.toNat aq
def eN (m:Mem) (p s «by»:Int):Mem :=
 bif (iw m (ga m p s)==2)||(iw m (ga m p s)==3) then iI (pZ m p s).Ino (shown (ga m p s) «by» (nJ m p s))
 else (b8 (nJ m p s) ⟨0,4,(pZ m p s).Ino,0,p,s,(pZ m p s).Name,false,false,«by»,[]⟩).1
theorem cE.nJ {m:Mem} (h:cE m) {p s:Int} (p1:1<=p) (p2:p<=16) (hd:(aN m.aa p).cf=true):cE (Soft.nJ m p s) :=
 (h.ym (h.d.p8 p (vO (h.d.nM p1 p2) hd s.toNat (s:=⟨eS,0⟩) (by decide)))).mark (aG p)
theorem Mm {m:Mem} (h:cE m) {p s:Int} (p1:1<=p) (p2:p<=16) (hd:(aN m.aa p).cf=true) (s0:0<=s) (s1:s<=3):pV (pZ m p s)=true :=
 tt (h.d.nM p1 p2) hd (aU aq (by rw [dm (h.d.nM p1 p2) hd]; omega))
theorem Jg {s:Slot} (h:pV s=true):s.Name.size<=6:=by
 simp only [pV,Bool.or_eq_true,zB,beq_iff_eq] at h
 rcases h with h | h
 ·rw [h.1]; decide
 ·exact (eY h.1).2
theorem cE.eN {m:Mem} (h:cE m) {p s b:Int} (p1:1<=p) (p2:p<=16) (hd:(aN m.aa p).cf=true) (s0:0<=s) (s1:s<=3) (hi:within (pZ m p s).Ino 1 8=true) (b0:0<=b) (b1:b<=m.Next-1):cE (Soft.eN m p s b):=by
 have g:=h.nJ (s:=s) p1 p2 hd
 have n1:=h.n1
 rw [ak] at hi
 simp only [Soft.eN]
 cases (iw m (ga m p s)==2)||(iw m (ga m p s)==3) with
 | true=>exact (g.shown _ _ b0 b1).iI hi.1 hi.2
 | false =>
  refine g.put _ ?_ rfl ⟨Nat.le_trans (Jg (Mm h p1 p2 hd s0 s1)) (by decide),Nat.zero_le _⟩
  have gn:(Soft.nJ m p s).Next=m.Next:=rfl
  simp only [bJ,zB,ak,gn]
  refine ⟨⟨by omega,by omega⟩,⟨by decide,by decide⟩,hi,⟨by decide,by decide⟩,⟨by omega,p2⟩,⟨s0,s1⟩,b0,by omega⟩
theorem Bl {n:Nat} (hn:bk<=n) {m:Mem} (h:cE m) {p s b:Int} (p1:1<=p) (p2:p<=16) (hd:(aN m.aa p).cf=true) (s0:0<=s) (s1:s<=3) (hi:within (pZ m p s).Ino 1 8=true) (b0:0<=b) (b1:b<=m.Next-1) (k:Mem->Option R) :
  og n p s b m k=k (eN m p s b):=by
 have TG:=h.d.db
 have g:=h.nJ (s:=s) p1 p2 hd
 have e1:m.aa.ab.getD (p-1).toNat aC=aN m.aa p:=rfl
 rw [ak] at hi
 simp only [og]
 rw [bO (by omega) (by omega),aj (bz p1 (by omega)),e1,aj (by rw [dm (h.d.nM p1 p2) hd]; simp only [aZ,zB,zD]; omega),
  Ch hn m h.Fv.dp,BZ hn _ m h.Fv.dp,aj (bz p1 (by omega)),aj (by rw [dm (h.d.nM p1 p2) hd]; simp only [aZ,zB,zD]; omega),eB,dq,jS]
 simp only [eN]
 cases hc:(iw m (ga m p s)==2)||(iw m (ga m p s)==3) with
 | true =>
  simp only [zE]
  have sh:=g.shown (ga m p s) b b0 b1
  refine (zy hn (nJ m p s) g.Fv (ga m p s) b _).trans ?_
  have hl:within (ai (shown (ga m p s) b (nJ m p s)).aa (pZ m p s).Ino).Links 0 200=true:=by
   have:=sh.d.sU hi.1 hi.2
   simp only [bp,zB] at this
   exact this.2.1
  refine (B4 hn _ sh.Fv (pZ m p s).Ino hi.1 (by rw [sh.d.di]; exact hi.2) hl (by rw [sh.d.sd hi.1 hi.2]; decide) _).trans ?_
  rfl
 | false =>
  simp only [zF]
  refine (nX hn (nJ m p s) g.Fv _ (Nat.zero_le _) _).trans ?_
  rfl
theorem ta (d:aa):∀ (l:List ByteArray) (i:Int),(i=0\/(1<=i/\i<=d.ad.length))->(cD d i l=0\/(1<=cD d i l/\cD d i l<=d.ad.length))
 | [],i,h=>h
 | x::l,i,h=>by
  simp only [cD]
  cases hw:within (find d i x).2.2 1 d.ad.length with
  | false=>exact .inl rfl
  | true=>exact ta d l _ (.inr (ak.1 hw))
theorem lB {d:aa} (h:d.ad.length=8) (p:ByteArray):aD d p=0\/(1<=aD d p/\aD d p<=8):=by
 simp only [aD]
 cases (aP p).2 with
 | false=>exact .inl rfl
 | true =>
  have:=ta d (aP p).1 1 (.inr ⟨by omega,by omega⟩)
  rw [h] at this
  exact this
theorem mI (p:ByteArray):(ao p).1.size<=cM/\(ao p).2.1.size<=cM/\((ao p).2.2=true->bN (ao p).2.1=true):=by
 simp only [ao]
 cases hc: !(aP p).2||(aP p).1.length==0 with
 | true=>exact ⟨by show eS.size<=cM; decide,by show eS.size<=cM; decide,fun h=>by cases h⟩
 | false =>
  rw [Bool.or_eq_false_iff] at hc
  have hl:¬ (aP p).1.length=0:=by simpa using hc.2
  rcases ny p with e | e | ⟨_,e,l4⟩
  ·rw [e] at hl; exact absurd rfl hl
  ·rw [e] at hl; exact absurd rfl hl
  ·have CP:∀ x∈(aP p).1.dropLast,x∈(aP p).1:=fun x hx=>(List.dropLast_sublist _).subset hx
   have hm:bN ((aP p).1.getD ((aP p).1.length-1) eS)=true:=List.all_eq_true.1 e _ (aU eS (by omega))
   have hd:∀ x∈(aP p).1.dropLast,x.size<=6:=fun x hx=>(eY (List.all_eq_true.1 e x (CP x hx))).2
   have hj:(fb (aP p).1.dropLast).size<=cM:=by
    have:=u0 _ eS hd
    have l:(aP p).1.dropLast.length=(aP p).1.length-1:=List.length_dropLast
    have e0:eS.size=0:=rfl
    exact Nat.le_trans this (by rw [l,e0]; show _<=2097152; omega)
   refine ⟨?_,Nat.le_trans (eY hm).2 (by decide),fun _=>hm⟩
   simp only [zF]
   cases fb (aP p).1.dropLast==eS with
   | true=>show (S [47]).size<=cM; decide
   | false=>exact hj
theorem fK.t {m:Mem} (h:fK m) (hs:ej m):cE m:=⟨h.d.t,h.dy,h.dp,h.n1,h.n2,h.num,h.bs,hs.dep⟩
def room (m:Mem):Bool:=decide ((m.ae.length:Int)<=32)&&decide (m.Next<=99000)
def jl (t:Mem×Int) (kind:Int):Mem:=⟨aQ t.1.aa t.2 (ba kind),bS (aO t.2) t.1.an,t.1.ae,t.1.Next⟩
def e9 (m:Mem) (p:ByteArray) (kind:Int):Mem×Int :=
 bif ((!fY m)||(!(ao p).2.2))||((!(kind==1))&&(!(kind==2))) then (m,6) else
 bif !(aD m.aa p==0) then (m,2) else
 bif aD m.aa (ao p).1==0 then (m,1) else
 bif !((ai m.aa (aD m.aa (ao p).1)).Kind==2) then (m,3) else
 bif waits m (aD m.aa (ao p).1) (ao p).2.1 then (m,5) else
 bif ((aT m).2==0)||(!room (aT m).1) then (m,4) else
 bif (dR (jl (aT m) kind) (aD m.aa (ao p).1) (ao p).2.1 (aT m).2).2==0 then (m,4) else
 ((dR (jl (aT m) kind) (aD m.aa (ao p).1) (ao p).2.1 (aT m).2).1,0)
theorem zb {kind:Int} (h:kind=1\/kind=2):bp (ba kind)=true:=by
 rcases h with rfl | rfl<;>decide
theorem zj {n:Nat} (hn:bk<=n) (m:Mem) (hm:ej m) (p:ByteArray) (hp:p.size<=cM) (kind:Int) (k:Mem->Int->Option R) :
  oH n m p kind k=k (e9 m p kind).1 (e9 m p kind).2/\((e9 m p kind).1=m\/(fY m=true/\cE (e9 m p kind).1)):=by
 obtain ⟨q1,q2,q3⟩:=mI p
 simp only [oH,e9]
 rw [ee hn m hm,pU hn p hp,mY hn m hm]
 cases hc:((!fY m)||(!(ao p).2.2))||((!(kind==1))&&(!(kind==2))) with
 | true=>exact ⟨rfl,.inl rfl⟩
 | false =>
 simp only [Bool.or_eq_false_iff,Bool.not_eq_false'] at hc
 have hR:=n6.1 hc.1.1
 have hT:=hR.t hm
 have Q6:=q3 hc.1.2
 have T9:kind=1\/kind=2:=by
  have:=hc.2
  cases h1:kind==1 with
  | true=>exact .inl (by simpa using h1)
  | false =>
   cases h2:kind==2 with
   | true=>exact .inr (by simpa using h2)
   | false=>rw [h1,h2] at this; cases this
 simp only [zF]
 rw [jA hn _ hm.d p hp]
 cases h2: !(aD m.aa p==0) with
 | true=>exact ⟨rfl,.inl rfl⟩
 | false =>
 simp only [zF]
 rw [jA hn _ hm.d _ q1]
 cases h3:aD m.aa (ao p).1==0 with
 | true=>exact ⟨rfl,.inl rfl⟩
 | false =>
 have hw:=(lB hT.d.di (ao p).1).resolve_left (by simpa using h3)
 generalize aD m.aa (ao p).1=w at hw ⊢
 have QF:=hT.d.di
 simp only [zF]
 rw [bO (by omega) (by omega),aj (bz hw.1 (by omega)),show m.aa.ad.getD (w-1).toNat az=ai m.aa w from rfl]
 cases h4: !((ai m.aa w).Kind==2) with
 | true=>exact ⟨rfl,.inl rfl⟩
 | false =>
 have so:(ai m.aa w).Kind=2:=by simpa using h4
 simp only [zF]
 rw [zY hn m hm.dp hm.d.di w hw.1 (by omega) (by rw [hT.d.sd hw.1 hw.2]; decide)]
 cases h5:waits m w (ao p).2.1 with
 | true=>exact ⟨rfl,.inl rfl⟩
 | false =>
 simp only [zF]
 rw [JD hn m hm]
 obtain ⟨t,t1,t2,t3,t4,t5⟩:=F3 hT
 simp only [jH]
 cases h6:(aT m).2==0 with
 | true=>exact ⟨rfl,.inl rfl⟩
 | false =>
 have hi:=t3.resolve_left (by rw [h6]; decide)
 generalize aT m=tk at *
 simp only [zN,zE,Bool.false_or]
 cases h7: !room tk.1 with
 | true =>
  have Wp:(!(decide ((tk.1.ae.length:Int)<=32)&&decide (tk.1.Next<=99000)))=true:=h7
  rw [Wp]
  exact ⟨rfl,.inl rfl⟩
 | false =>
 have Wp:(!(decide ((tk.1.ae.length:Int)<=32)&&decide (tk.1.Next<=99000)))=false:=h7
 rw [Wp]
 simp only [zF]
 rw [jz,bO (by omega) (by omega),aj (bz hi.1 (by rw [t.d.di]; exact hi.2)),gB,dq,jS]
 have hL:cE (jl tk kind):=(t.ym (t.d.nA tk.2 (zb T9))).mark (aO tk.2)
 have jf:(ai (jl tk kind).aa w).Kind≠0:=by
  have:=Et (d:=tk.1.aa) (l:=tk.1.aa.ad) (i:=tk.2) (j:=w) (x:=ba kind) hi.1 (by rw [t.d.di]; exact hi.2) hw.1
  show (ai { tk.1.aa with ad:=tk.1.aa.ad.set (tk.2-1).toNat (ba kind) } w).Kind≠0
  rw [this]
  cases w==tk.2 with
  | true=>show kind≠0; rcases T9 with rfl | rfl<;>decide
  | false =>
   show (tk.1.aa.ad.getD (w-1).toNat az).Kind≠0
   rw [t4]
   show (ai m.aa w).Kind≠0
   rw [so]; decide
 have Wk:=D4 (R:=R) hn (jl tk kind) hL hw.1 hw.2 jf Q6 hi.1 hi.2
 have bV:=hL.dR hw.1 hw.2 jf Q6 hi.1 hi.2
 constructor
 ·refine (Wk _).trans ?_
  cases (dR (jl tk kind) w (ao p).2.1 tk.2).2==0<;>rfl
 ·cases (dR (jl tk kind) w (ao p).2.1 tk.2).2==0 with
  | true=>exact .inl rfl
  | false=>exact .inr ⟨hc.1.1,bV.1⟩
def pE (m:Mem) (r:Int) (s:ByteArray):Mem:=⟨ch m.aa r ⟨false,[],s⟩,bS (aG r) m.an,m.ae,m.Next⟩
def sX (t:Mem×Int) (w x:Int):Mem :=
 (b8 ⟨aQ t.1.aa w (gR (ai t.1.aa w) x.toNat t.2),bS (aO w) t.1.an,t.1.ae,t.1.Next⟩ ⟨0,1,w,x,t.2,0,eS,false,false,0,[]⟩).1
def jQ (m:Mem) (p:ByteArray) (x:Int) (s:ByteArray):Mem×Int :=
 bif (((!fY m)||(!(aP p).2))||(!within x 0 1))||(decide (16<(s.size:Int))) then (m,6) else
 bif aD m.aa p==0 then (m,1) else
 bif !((ai m.aa (aD m.aa p)).Kind==1) then (m,3) else
 bif (ai m.aa (aD m.aa p)).ay.getD x.toNat 0==0 then
  bif ((aX m).2==0)||(!room m) then (m,4) else (pE (sX (aX m) (aD m.aa p) x) (aX m).2 s,0)
 else (pE m ((ai m.aa (aD m.aa p)).ay.getD x.toNat 0) s,0)
theorem cE.pE {m:Mem} (h:cE m) (r:Int) {s:ByteArray} (hs:s.size<=16):cE (Soft.pE m r s) :=
 (h.ym (h.d.p8 r (b:=⟨false,[],s⟩) (by simpa [gw] using hs))).mark (aG r)
theorem FY {n:Nat} (hn:bk<=n) (m:Mem) (hm:ej m) (p:ByteArray) (hp:p.size<=cM) (x:Int) (s:ByteArray) (k:Mem->Int->Option R) :
  pK n m p x s k=k (jQ m p x s).1 (jQ m p x s).2/\((jQ m p x s).1=m\/(fY m=true/\cE (jQ m p x s).1)):=by
 simp only [pK,jQ]
 rw [ee hn m hm,nP hn p hp,mY hn m hm,jh]
 cases ha:fY m with
 | false=>exact ⟨rfl,.inl rfl⟩
 | true =>
 cases hb:(aP p).2 with
 | false=>exact ⟨rfl,.inl rfl⟩
 | true =>
 cases hx:within x 0 1 with
 | false=>exact ⟨rfl,.inl rfl⟩
 | true =>
 cases hs:decide (16<(s.size:Int)) with
 | true=>exact ⟨rfl,.inl rfl⟩
 | false =>
 have hR:=n6.1 ha
 have hT:=hR.t hm
 have CX:s.size<=16:=by have:=of_decide_eq_false hs; omega
 rw [ak] at hx
 simp only [zM,zN,Bool.or_false,zE,zF]
 rw [jA hn _ hm.d p hp]
 cases h3:aD m.aa p==0 with
 | true=>exact ⟨rfl,.inl rfl⟩
 | false =>
 have hw:=(lB hT.d.di p).resolve_left (by simpa using h3)
 generalize aD m.aa p=w at hw ⊢
 have QF:=hT.d.di
 simp only [zF]
 rw [bO (by omega) (by omega),aj (bz hw.1 (by omega)),show m.aa.ad.getD (w-1).toNat az=ai m.aa w from rfl]
 cases h4: !((ai m.aa w).Kind==1) with
 | true=>exact ⟨rfl,.inl rfl⟩
 | false =>
 have wq:(ai m.aa w).Kind=1:=by simpa using h4
 have hix:aZ x 2=true:=by simp only [aZ,zB,zD]; omega
 simp only [zF]
 rw [ee hn m hm,aj (bz hw.1 (by omega)),aj (by rw [hT.d.sd hw.1 hw.2]; exact hix)]
 cases h5:(ai m.aa w).ay.getD x.toNat 0==0 with
 | true =>
  simp only [zE]
  rw [wY hn m hm]
  obtain ⟨t,t1,t2,t3,t4,t5⟩:=oY hT
  simp only [jH]
  cases h6:(aX m).2==0 with
  | true=>exact ⟨rfl,.inl rfl⟩
  | false =>
  have hi:=t3.resolve_left (by rw [h6]; decide)
  generalize aX m=tk at *
  simp only [zN,zE,Bool.false_or]
  cases h7: !room m with
  | true =>
   have Wp:(!(decide ((m.ae.length:Int)<=32)&&decide (m.Next<=99000)))=true:=h7
   rw [Wp]
   exact ⟨rfl,.inl rfl⟩
  | false =>
  have Wp:(!(decide ((m.ae.length:Int)<=32)&&decide (m.Next<=99000)))=false:=h7
  rw [Wp]
  have J4:ai tk.1.aa w=ai m.aa w:=by simp only [ai,t4]
  have jf:(ai tk.1.aa w).Kind≠0:=by rw [J4,wq]; decide
  have h1:=(t.ym (t.d.nA w (pS (t.d.sU hw.1 hw.2) jf x.toNat (by omega:(0:Int)<=tk.2) hi.2))).mark (aO w)
  have n1:=t.n1
  have hg:cE (sX tk w x):=by
   refine h1.put _ ?_ rfl ⟨by show eS.size<=cM; decide,Nat.zero_le _⟩
   simp only [bJ,zB,ak]
   refine ⟨⟨by omega,by omega⟩,⟨by decide,by decide⟩,hw,hx,⟨by omega,hi.2⟩,⟨by decide,by decide⟩,by decide,by omega⟩
  simp only [zF]
  refine ⟨?_,.inr ⟨by first | exact trivial | rfl,hg.pE tk.2 CX⟩⟩
  have e2:tk.1.aa.ad.getD (w-1).toNat az=ai tk.1.aa w:=rfl
  rw [aj (bz hw.1 (by rw [t.d.di]; exact hw.2)),e2,aj (by rw [t.d.sd hw.1 hw.2]; exact hix),gB,dq,jS]
  refine (nX hn _ h1.Fv _ (Nat.zero_le _) _).trans ?_
  have hgb:(sX tk w x).aa.ab.length=16:=hg.d.db
  have adV:(b8 ⟨aQ tk.1.aa w (gR (ai tk.1.aa w) x.toNat tk.2),bS (aO w) tk.1.an,tk.1.ae,tk.1.Next⟩ ⟨0,1,w,x,tk.2,0,eS,false,false,0,[]⟩).1.aa.ab.length=16:=hgb
  rw [bO (by omega) (by omega),aj (bz hi.1 (by rw [adV]; exact hi.2)),eB,dq,jS]
  rfl
 | false =>
  simp only [zF]
  have TG:=hT.d.db
  have NK:1<=(ai m.aa w).ay.getD x.toNat 0/\(ai m.aa w).ay.getD x.toNat 0<=16:=by
   have C3:=hT.d.sU hw.1 hw.2
   have hlen:=hT.d.sd hw.1 hw.2
   simp only [bp,zB,List.all_eq_true,ak] at C3
   have:=(C3.2.2.2.1 _ (aU 0 (l:=(ai m.aa w).ay) (i:=x.toNat) (by omega))).1
   have cT:¬ (ai m.aa w).ay.getD x.toNat 0=0:=by simpa using h5
   omega
  refine ⟨?_,.inr ⟨by first | exact trivial | rfl,hT.pE _ CX⟩⟩
  generalize (ai m.aa w).ay.getD x.toNat 0=r at NK ⊢
  rw [bO (by omega) (by omega),aj (bz NK.1 (by omega)),eB,dq,jS]
  rfl
theorem yu {α:Type} (P:α->Bool) (d:α):∀ (l:List α) (j:Nat),bB P l=(j:Int)->P (l.getD j d)=true
 | [],j,h=>by
  simp only [bB] at h
  omega
 | x::l,j,h=>by
  simp only [bB] at h
  cases hp:P x with
  | true =>
   simp only [hp,zE] at h
   have:j=0:=by omega
   subst this
   exact hp
  | false =>
   simp only [hp,zF] at h
   rcases gg P l with e | ⟨j',e,hj⟩
   ·rw [e] at h
    have h':(-1:Int)=(j:Int):=h
    omega
   ·rw [e] at h
    have h':((j'+1:Nat):Int)=(j:Int):=h
    have:j=j'+1:=by omega
    subst this
    rw [List.getD_cons_succ]
    exact yu P d l j' e
structure Found (d:aa) (p s ino:Int):Prop where
 p1:1<=p
 p2:p<=16
 dir:(aN d p).cf=true
 s0:0<=s
 s1:s<=3
 eq:ino=((aN d p).ah.getD s.toNat aq).Ino
 i1:1<=ino
 i2:ino<=8
theorem zd {d:aa} (h:cJ d) (name:ByteArray):∀ l:List Int,gx d name l=(0,0,0)\/Found d (gx d name l).1 (gx d name l).2.1 (gx d name l).2.2
 | []=> .inl rfl
 | p::l=>by
  simp only [gx]
  cases hc:((cV d p).2&&(cV d p).1.cf)&&decide (0<=dI (cV d p).1 name) with
  | false=>exact zd h name l
  | true =>
   rw [zB,zB,zD] at hc
   obtain ⟨⟨h1,h2⟩,h3⟩:=hc
   simp only [cV] at h1 h2 h3 ⊢
   cases hw:within p 1 d.ab.length with
   | false=>rw [hw] at h1; cases h1
   | true =>
    simp only [hw,zE] at h1 h2 h3 ⊢
    rw [ak,h.db] at hw
    have fW:=ED h3
    have h4:=dm (h.nM hw.1 hw.2) h2
    have hs:=tt (h.nM hw.1 hw.2) h2 (aU aq fW)
    have hn:(((aN d p).ah.getD (dI (aN d p) name).toNat aq).Name==name)=true/\¬ name=eS:=by
     have Ly:=h3
     simp only [dI] at Ly ⊢
     cases he:name==eS with
     | true=>rw [he] at Ly; simp at Ly
     | false =>
      simp only [he,zF] at Ly ⊢
      have UU:¬ name=eS:=by
       intro e; rw [e] at he; simp at he
      refine ⟨?_,UU⟩
      rcases gg (fun s:Slot=>s.Name==name) (aN d p).ah with e | ⟨j,e,hj⟩
      ·rw [e] at Ly; omega
      ·rw [e,zC]
       exact yu (fun s:Slot=>s.Name==name) aq _ j e
    have z5:1<=((aN d p).ah.getD (dI (aN d p) name).toNat aq).Ino/\((aN d p).ah.getD (dI (aN d p) name).toNat aq).Ino<=8:=by
     simp only [pV,Bool.or_eq_true,zB,ak,beq_iff_eq] at hs
     rcases hs with hs | hs
     ·exact absurd ((beq_iff_eq.1 hn.1).symm.trans hs.1) hn.2
     ·exact hs.2
    exact .inr ⟨hw.1,hw.2,h2,h3,by show dI (aN d p) name<=3; omega,rfl,z5.1,z5.2⟩
theorem find_spec {d:aa} (h:cJ d) (i:Int) (name:ByteArray):find d i name=(0,0,0)\/Found d (find d i name).1 (find d i name).2.1 (find d i name).2.2:=by
 simp only [find]
 cases within i 1 d.ad.length&&(ai d i).Kind==2 with
 | false=>exact .inl rfl
 | true=>exact zd h name _
def tH (m:Mem) (f:Int×Int×Int):Mem×Int :=
 bif f.2.2==0 then (m,1) else
 bif ((decide (0<((pw m.aa f.2.2).length:Int)))||(((ai m.aa f.2.2).Kind==2)&&held m f.2.2))||(!room m) then (m,5) else
 (eN m f.1 f.2.1 0,0)
def iy (m:Mem) (p:ByteArray):Mem×Int :=
 bif (!fY m)||(!(ao p).2.2) then (m,6) else tH m (find m.aa (aD m.aa (ao p).1) (ao p).2.1)
theorem Dh {n:Nat} (hn:bk<=n) (m:Mem) (hm:ej m) (p:ByteArray) (hp:p.size<=cM) (k:Mem->Int->Option R) :
  nV n m p k=k (iy m p).1 (iy m p).2/\((iy m p).1=m\/(fY m=true/\cE (iy m p).1)):=by
 obtain ⟨q1,q2,q3⟩:=mI p
 simp only [nV,iy]
 rw [ee hn m hm,pU hn p hp,mY hn m hm]
 cases hc:(!fY m)||(!(ao p).2.2) with
 | true=>exact ⟨rfl,.inl rfl⟩
 | false =>
 simp only [Bool.or_eq_false_iff,Bool.not_eq_false'] at hc
 have hT:=(n6.1 hc.1).t hm
 have QF:=hT.d.di
 simp only [zF]
 rw [jA hn _ hm.d _ q1,qV hn _ hm.d]
 have hf:=find_spec hT.d (aD m.aa (ao p).1) (ao p).2.1
 generalize find m.aa (aD m.aa (ao p).1) (ao p).2.1=f at hf ⊢
 simp only [tH]
 cases h1:f.2.2==0 with
 | true=>exact ⟨rfl,.inl rfl⟩
 | false =>
 have F:Found m.aa f.1 f.2.1 f.2.2:=hf.resolve_left (by intro e; rw [e] at h1; cases h1)
 have i1:=F.i1
 have i2:=F.i2
 simp only [zF]
 rw [Jk hn _ hm.d _ (fun x hx=>by rw [jD (hT.d.ino x hx)]; exact Nat.le_refl 2) (fun b hb=>by
  have h:=hT.d.pd b hb
  cases hd:b.cf with
  | true=>rw [dm h hd]; exact Nat.le_refl 4
  | false =>
   simp only [gw,hd,zF,zB,beq_iff_eq] at h
   omega)]
 rw [bO (by omega) (by omega),aj (by rw [bz i1 (by omega),Bool.or_true]),show m.aa.ad.getD (f.2.2-1).toNat az=ai m.aa f.2.2 from rfl,
  IU hn m hm.dp hm.d.di f.2.2 i1 (by omega) (by rw [hT.d.sd i1 i2]; decide)]
 simp only [jH]
 have er:(decide ((m.ae.length:Int)<=32)&&decide (m.Next<=99000))=room m:=rfl
 rw [er,ee hn m hm]
 have hg:∀ k:Mem->Option R,og n f.1 f.2.1 0 m k=k (eN m f.1 f.2.1 0):=fun k =>
  Bl hn hT F.p1 F.p2 F.dir F.s0 F.s1 (by rw [ak]; have:=F.eq; show 1<=((aN m.aa f.1).ah.getD f.2.1.toNat aq).Ino/\_; exact ⟨this▸i1,this▸i2⟩) (Int.le_refl 0) (by have:=hT.n1; omega) k
 have ht:cE (eN m f.1 f.2.1 0) :=
  hT.eN F.p1 F.p2 F.dir F.s0 F.s1 (by rw [ak]; have:=F.eq; show 1<=((aN m.aa f.1).ah.getD f.2.1.toNat aq).Ino/\_; exact ⟨this▸i1,this▸i2⟩) (Int.le_refl 0) (by have:=hT.n1; omega)
 rw [hg]
 cases hA:decide (0<((pw m.aa f.2.2).length:Int))<;>cases hB:(ai m.aa f.2.2).Kind==2<;>cases hC:held m f.2.2<;>cases hD:room m <;>
  first
   | exact ⟨rfl,.inl rfl⟩
   | exact ⟨rfl,.inr ⟨hc.1,ht⟩⟩
def sD (m:Mem):Int->List ByteArray->Bool
 | _,[]=>false
 | i,x::l=>bif decide (0<(find m.aa i x).2.2)&&((iw m (ga m (find m.aa i x).1 (find m.aa i x).2.1)==2)||(iw m (ga m (find m.aa i x).1 (find m.aa i x).2.1)==3)) then true else sD m (find m.aa i x).2.2 l
def deep (m:Mem) (dir:ByteArray):Bool:=sD m 1 (aP dir).1
theorem IM {n:Nat} (hn:bk<=n) (m:Mem) (hm:ej m) (p:ByteArray) (hp:p.size<=cM) (k:Bool->Option R):tS n m p k=k (deep m p):=by
 simp only [tS,deep]
 rw [nP hn p hp]
 have hl:(aP p).1.length<=4:=by
  rcases ny p with e | e | ⟨_,_,l4⟩
  ·rw [e]; exact Nat.zero_le _
  ·rw [e]; exact Nat.zero_le _
  ·exact l4
 generalize (aP p).1=names at hl ⊢
 have loop:∀ (ps:List ByteArray) (j mm:Nat) (i:Int),ps=names.drop j->j<=names.length->ps.length<mm ->
   jJ n names m.aa.au.ab m.aa.au.bF m.aa.ad m.aa.ab m.an m.ae (fun x=>k x) (k false) mm i (j:Int) m.Next=k (sD m i ps):=by
  intro ps
  induction ps with
  | nil =>
   intro j mm i h1 h2 h3
   have:j=names.length:=by have:=congrArg List.length h1; simp at this; omega
   cases mm with
   | zero=>simp at h3
   | succ mm=>simp [jJ,sD,this]
  | cons x ps ih =>
   intro j mm i h1 h2 h3
   have hj:j<names.length:=by have:=congrArg List.length h1; simp at this; omega
   have Qp:=cQ eS hj
   rw [← h1] at Qp; injection Qp with WJ NK
   cases mm with
   | zero=>simp at h3
   | succ mm =>
    simp only [jJ,bh,aF,hj,zV,zE,bc,zC,← WJ]
    refine (qV hn m.aa hm.d i x _).trans ?_
    refine (Ch hn m hm.dp _ _ _).trans ?_
    refine (BZ hn _ m hm.dp _).trans ?_
    simp only [sD]
    cases decide (0<(find m.aa i x).2.2)&&((iw m (ga m (find m.aa i x).1 (find m.aa i x).2.1)==2)||(iw m (ga m (find m.aa i x).1 (find m.aa i x).2.1)==3)) with
    | true=>rfl
    | false =>
     simp only [zF]
     rw [bL (by omega)]
     exact ih (j+1) mm _ NK (by omega) (by simp at h3; omega)
 exact loop names 0 n 1 (by simp) (by omega) (aH hn (by omega))
theorem vN {α S:Type} {L:Nat->Int->S->Option R} {l:List α} (d:α) {g:S->α->S} {q:S->Option R} {B:Nat} (hl:l.length<=4611686018427387904)
  (hs:∀ m i acc,B<m->i<l.length->L (m+1) (i:Int) acc=L m (aA ((i:Int)+1)) (g acc (l.getD i d)))
  (hq:∀ m acc,L (m+1) (l.length:Int) acc=q acc):∀ (r j n:Nat) (acc:S),j+r=l.length->r+B<n->L n (j:Int) acc=q ((l.drop j).foldl g acc)
 | 0,j,n,acc,hj,hn=>by
  cases n with
  | zero=>omega
  | succ n =>
   have:j=l.length:=by omega
   subst this
   rw [hq,List.drop_length]; rfl
 | r+1,j,n,acc,hj,hn=>by
  cases n with
  | zero=>omega
  | succ n =>
   rw [hs n j acc (by omega) (by omega),bL (by omega),cQ d (by omega:j<l.length),List.foldl_cons]
   exact vN d hl hs hq r (j+1) n _ (by omega) (by omega)
def x8 (i:Int) (v:List Int) (d:bG):List Int:=bif (((d.Kind==1)&&(d.Ino==i))&&(decide (0<=d.Ptr)))&&(decide (d.Ptr<(v.length:Int))) then v.set d.Ptr.toNat 0 else v
def kO (m:Mem) (i:Int):aV:=bif within i 1 m.aa.ad.length then ⟨(ai m.aa i).Kind,(ai m.aa i).Links,m.ae.foldl (x8 i) (ai m.aa i).ay⟩ else ba 0
theorem C9 {n:Nat} (hn:bk<=n) (m:Mem) (hm:ej m) (i:Int) (k:aV->Option R):nR n m i k=k (kO m i):=by
 have QF:m.aa.ad.length<=2097152:=hm.d.di
 have V8:m.ae.length<=2097152:=hm.dp
 simp only [nR,jh,kO]
 cases hw:within i 1 m.aa.ad.length with
 | false=>rfl
 | true =>
  rw [ak] at hw
  simp only [zM,zF,zE]
  rw [bO (by omega) (by omega),aj (bz hw.1 hw.2),show m.aa.ad.getD (i-1).toNat az=ai m.aa i from rfl,
   vW (ai m.aa i) (hm.d.ino _ (aU az (l:=m.aa.ad) (i:=(i-1).toNat) (by omega)))]
  have:=vN (R:=R) (L:=fm i m.ae (fun v=>k ⟨(ai m.aa i).Kind,(ai m.aa i).Links,v⟩)) (l:=m.ae) aJ (g:=x8 i) (q:=fun v=>k ⟨(ai m.aa i).Kind,(ai m.aa i).Links,v⟩) (B:=0) (by omega)
   (fun mm j acc _ hj=>by
    simp only [fm,bh,aF,hj,zV,bc,zE,zC,x8]
    cases hc:((((m.ae.getD j aJ).Kind==1)&&((m.ae.getD j aJ).Ino==i))&&(decide (0<=(m.ae.getD j aJ).Ptr)))&&(decide ((m.ae.getD j aJ).Ptr<(acc.length:Int))) with
    | false=>rfl
    | true =>
     simp only [zB] at hc
     simp only [zE]
     rw [aj (by simp only [aZ,zB]; exact ⟨hc.1.2,hc.2⟩)])
   (fun mm acc=>by simp [fm]) m.ae.length 0 n (ai m.aa i).ay (by omega) (aH hn (by omega))
  rw [List.drop_zero] at this
  exact this
def nN (p:Int) (v:List Slot) (d:bG):List Slot :=
 bif ((!(d.Block==p))||(decide (d.Slot<0)))||(decide ((v.length:Int)<=d.Slot)) then v else
 bif d.Kind==2 then v.set d.Slot.toNat ⟨eS,0⟩ else
 bif (d.Kind==4)&&(decide (0<d.bx)) then v.set d.Slot.toNat ⟨d.Name,d.Ino⟩ else v
def mB (m:Mem) (p:Int):Block:=bif within p 1 m.aa.ab.length then ⟨(aN m.aa p).cf,m.ae.foldl (nN p) (aN m.aa p).ah,(aN m.aa p).Text⟩ else aC
theorem Dn {n:Nat} (hn:bk<=n) (m:Mem) (hm:ej m) (p:Int) (k:Block->Option R):nW n m p k=k (mB m p):=by
 have TG:m.aa.ab.length<=2097152:=hm.d.db
 have V8:m.ae.length<=2097152:=hm.dp
 simp only [nW,jh,mB]
 cases hw:within p 1 m.aa.ab.length with
 | false=>rfl
 | true =>
  rw [ak] at hw
  simp only [zM,zF,zE]
  rw [bO (by omega) (by omega),aj (bz hw.1 hw.2),show m.aa.ab.getD (p-1).toNat aC=aN m.aa p from rfl,
   vQ (aN m.aa p) (hm.d.pd _ (aU aC (l:=m.aa.ab) (i:=(p-1).toNat) (by omega))).1]
  have:=vN (R:=R) (L:=dg p m.ae (fun v=>k ⟨(aN m.aa p).cf,v,(aN m.aa p).Text⟩)) (l:=m.ae) aJ (g:=nN p) (q:=fun v=>k ⟨(aN m.aa p).cf,v,(aN m.aa p).Text⟩) (B:=0) (by omega)
   (fun mm j acc _ hj=>by
    simp only [dg,bh,aF,hj,zV,bc,zE,zC,nN]
    cases hc:((!((m.ae.getD j aJ).Block==p))||(decide ((m.ae.getD j aJ).Slot<0)))||(decide ((acc.length:Int)<=(m.ae.getD j aJ).Slot)) with
    | true=>rfl
    | false =>
     simp only [Bool.or_eq_false_iff,decide_eq_false_iff_not] at hc
     have hr:aZ (m.ae.getD j aJ).Slot acc.length=true:=by simp only [aZ,zB,zD]; omega
     simp only [zF]
     cases h2:(m.ae.getD j aJ).Kind==2 with
     | true =>
      have e2:(m.ae.getD j aJ).Kind=2:=by simpa using h2
      have h4:((m.ae.getD j aJ).Kind==4)=false:=by rw [e2]; rfl
      simp only [zE,h4,Bool.false_and,zF]
      rw [aj hr]
     | false =>
      simp only [zF]
      cases ((m.ae.getD j aJ).Kind==4)&&(decide (0<(m.ae.getD j aJ).bx)) with
      | true=>simp only [zE]; rw [aj hr]
      | false=>rfl)
   (fun mm acc=>by simp [dg]) m.ae.length 0 n (aN m.aa p).ah (by omega) (aH hn (by omega))
  rw [List.drop_zero] at this
  exact this
def Bf (d:aa) (u:Int):ByteArray :=
 bif u==0 then Cc d.au else
 bif decide (u<=4) then oh (d.ad.getD (2*u-2).toNat az)++oh (d.ad.getD (2*u-1).toNat az) else
 oe (d.ab.getD (u-5).toNat aC)
theorem tp (x:aV):(oh x).size<=4:=by
 simp only [oh]
 cases bp x with
 | false=>show eS.size<=4; decide
 | true=>exact Nat.le_refl 4
theorem AU {n:Nat} (hn:bk<=n) (d:aa) (h:cJ d) (u:Int) (h0:0<=u) (h1:u<=20) (k:ByteArray->Option R):qi n d u k=k (Bf d u):=by
 have QF:=h.di
 have TG:=h.db
 simp only [qi,Bf]
 cases e0:u==0 with
 | true=>simp only [zE]; rw [HX hn]
 | false =>
  have n0:¬ u=0:=by simpa using e0
  simp only [zF]
  cases e4:decide (u<=4) with
  | true =>
   have n4:=of_decide_eq_true e4
   simp only [zE]
   rw [bT (n:=2*u) (by omega) (by omega),bT (n:=2*u-2) (by omega) (by omega),bT (n:=2*u-1) (by omega) (by omega),
    aj (by simp only [aZ,zB,zD]; omega),wD hn,aj (by simp only [aZ,zB,zD]; omega),wD hn]
   have s1:=tp (d.ad.getD (2*u-2).toNat az)
   have s2:=tp (d.ad.getD (2*u-1).toNat az)
   rw [aj (iP (by omega))]
  | false =>
   have n4:=of_decide_eq_false e4
   simp only [zF]
   rw [bT (n:=u-5) (by omega) (by omega),aj (by simp only [aZ,zB,zD]; omega)]
   rw [wE hn _ (Eb (h.pd _ (aU aC (by omega))))]
def xd (d:aa) (u:Int):ByteArray×Bool:=bif lz d&&within u 0 20 then (Bf d u,true) else (eS,false)
theorem Hz {n:Nat} (hn:bk<=n) (d:aa) (hd:ja d) (u:Int) (k:ByteArray->Bool->Option R):rq n d u k=k (xd d u).1 (xd d u).2:=by
 simp only [rq,xd,jh]
 rw [yz hn d hd]
 cases h1:lz d with
 | false=>rfl
 | true =>
  cases h2:within u 0 20 with
  | false=>rfl
  | true =>
   rw [ak] at h2
   simp only [zM,zN,zE,zF,Bool.or_false,Bool.and_true]
   rw [AU hn d (kK.1 h1).t u h2.1 h2.2]
def DN (s:ByteArray):Bool:= !decide (60<(s.size:Int))
def eD (d:Device):Bool:=d.cA.all DN&&(d.cA.length==21)
theorem sS {n:Nat} (hn:bk<=n) (d:Device) (hd:d.cA.length<=cM) (k:Bool->Option R):oG n d k=k (eD d):=by
 have z6:d.cA.length<=2097152:=hd
 have:=fj (R:=R) (L:=iX d.cA (fun x=>k x) (k ((d.cA.length:Int)==21))) (l:=d.cA) eS (B:=0) (P:=DN) (e:=k false) (q:=k ((d.cA.length:Int)==21)) (by omega)
  (fun m i _ hi=>by
   simp only [iX,bh,aF,hi,zV,bc,zE,zC,DN]
   cases decide (60<((d.cA.getD i eS).size:Int))<;>rfl) (fun m=>by simp [iX]) (n:=n) (aH hn (by omega))
 refine this.trans ?_
 simp only [eD]
 rw [show (21:Int)=((21:Nat):Int) from rfl,cB]
 cases d.cA.all DN<;>rfl
def gz (d:Device) (u:Int) (s:ByteArray):Device×Bool :=
 bif ((!eD d)||(!within u 0 20))||(decide (60<(s.size:Int))) then (d,false) else (⟨d.cA.set u.toNat s⟩,true)
theorem EY {n:Nat} (hn:bk<=n) (d:Device) (hd:d.cA.length<=cM) (u:Int) (s:ByteArray) (k:Device->Bool->Option R):pH n d u s k=k (gz d u s).1 (gz d u s).2:=by
 have z6:d.cA.length<=2097152:=hd
 simp only [pH,gz,jh,List.nil_append]
 rw [aj (bZ (by omega)),sS hn d hd]
 cases h1:eD d with
 | false=>rfl
 | true =>
  cases h2:within u 0 20 with
  | false=>rfl
  | true =>
   cases h3:decide (60<(s.size:Int)) with
   | true=>rfl
   | false =>
    rw [ak] at h2
    simp only [eD,zB,beq_iff_eq] at h1
    simp only [zM,zN,zE,zF,Bool.or_false]
    rw [aj (by simp only [aZ,zB,zD]; omega)]
def LU (f:Fs):Bool:=fY f.Mem&&eD f.Device
theorem RT {n:Nat} (hn:bk<=n) (f:Fs) (hm:ej f.Mem) (hd:f.Device.cA.length<=cM) (k:Bool->Option R):F1 n f k=k (LU f):=by
 simp only [F1,LU]
 rw [mY hn _ hm,sS hn _ hd]
 cases fY f.Mem<;>rfl
theorem v9 {n:Nat} (hn:bk<=n) (f:Fs) (hm:ej f.Mem) (hd:f.Device.cA.length<=cM) (k:Fs->Option R):n8 n f k=k f:=by
 have z6:f.Device.cA.length<=2097152:=hd
 simp only [n8,List.nil_append]
 rw [ee hn _ hm,aj (bZ (by omega))]
theorem Bq {α:Type} {L:Nat->Int->List α->Option R} {len B:Nat} {f:Nat->α} {q:List α->Option R}
  (hs:∀ m j v,B<m->j<len->v.length=len->L (m+1) ((j+1:Nat):Int) v=L m ((j+2:Nat):Int) (v.set j (f j)))
  (hq:∀ m v,L (m+1) ((len+1:Nat):Int) v=q v):∀ (r j n:Nat) (b:List α),j+r=len->b.length=r->r+B<n ->
   L n ((j+1:Nat):Int) ((List.range' 0 j).map f++b)=q ((List.range' 0 len).map f)
 | 0,j,n,b,hj,hb,hn=>by
  cases n with
  | zero=>omega
  | succ n =>
   have:j=len:=by omega
   subst this
   have Wm:b=[]:=List.length_eq_zero_iff.1 hb
   rw [hq,Wm,List.append_nil]
 | r+1,j,n,b,hj,hb,hn=>by
  cases n with
  | zero=>omega
  | succ n =>
   cases b with
   | nil=>simp at hb
   | cons x b =>
    have hl:((List.range' 0 j).map f).length=j:=by simp
    rw [hs n j _ (by omega) (by omega) (by rw [zK,hl]; omega),nT _ hl]
    have:=Bq hs hq r (j+1) n b (by omega) (by simpa using hb) (by omega)
    rw [List.range'_concat,List.map_append,List.append_assoc] at this
    rw [show ((j+2:Nat):Int)=((j+1+1:Nat):Int) from rfl]
    refine Eq.trans ?_ this
    simp
def yg (m:Mem):aa:=⟨m.aa.au,(List.range' 0 8).map fun i=>kO m ((i+1:Nat):Int),(List.range' 0 16).map fun i=>mB m ((i+1:Nat):Int)⟩
theorem N4 {n:Nat} (hn:bk<=n) (m:Mem) (hm:ej m) (h8:m.aa.ad.length=8) (q:List aV->Option R) :
  hY n m.Next m.aa.au.ab m.aa.au.bF m.aa.ad m.aa.ab m.an m.ae q n 1 m.aa.ad=q ((List.range' 0 8).map fun i=>kO m ((i+1:Nat):Int)):=by
 have NZ:100000000<=n:=hn
 have:=Bq (R:=R) (L:=hY n m.Next m.aa.au.ab m.aa.au.bF m.aa.ad m.aa.ab m.an m.ae q) (len:=8) (B:=0) (f:=fun i=>kO m ((i+1:Nat):Int)) (q:=q)
  (fun mm j v _ hj hv=>by
   have hd:decide (((j+1:Nat):Int)<=8)=true:=decide_eq_true (by omega)
   simp only [hY,hd,zE]
   refine (C9 hn m hm _ _).trans ?_
   rw [bT (n:=((j+1:Nat):Int)-1) (by omega) (by omega),aj (by simp only [aZ,zB,zD]; omega),bT (by omega) (by omega)]
   rw [show (((j+1:Nat):Int)-1).toNat=j by omega,show ((j+1:Nat):Int)+1=((j+2:Nat):Int) by omega])
  (fun mm v=>rfl) 8 0 n m.aa.ad (by omega) h8 (by omega)
 simpa using this
theorem PT {n:Nat} (hn:bk<=n) (m:Mem) (hm:ej m) (h8:m.aa.ab.length=16) (q:List Block->Option R) :
  g5 n m.Next m.aa.au.ab m.aa.au.bF m.aa.ad m.aa.ab m.an m.ae q n 1 m.aa.ab=q ((List.range' 0 16).map fun i=>mB m ((i+1:Nat):Int)):=by
 have NZ:100000000<=n:=hn
 have:=Bq (R:=R) (L:=g5 n m.Next m.aa.au.ab m.aa.au.bF m.aa.ad m.aa.ab m.an m.ae q) (len:=16) (B:=0) (f:=fun i=>mB m ((i+1:Nat):Int)) (q:=q)
  (fun mm j v _ hj hv=>by
   have hd:decide (((j+1:Nat):Int)<=16)=true:=decide_eq_true (by omega)
   simp only [g5,hd,zE]
   refine (Dn hn m hm _ _).trans ?_
   rw [bT (n:=((j+1:Nat):Int)-1) (by omega) (by omega),aj (by simp only [aZ,zB,zD]; omega),bT (by omega) (by omega)]
   rw [show (((j+1:Nat):Int)-1).toNat=j by omega,show ((j+1:Nat):Int)+1=((j+2:Nat):Int) by omega])
  (fun mm v=>rfl) 16 0 n m.aa.ab (by omega) h8 (by omega)
 simpa using this
theorem Ju (i:Int) (v:List Int) (d:bG):(x8 i v d).length=v.length:=by
 simp only [x8]
 cases (((d.Kind==1)&&(d.Ino==i))&&(decide (0<=d.Ptr)))&&(decide (d.Ptr<(v.length:Int))) with
 | false=>rfl
 | true=>exact List.length_set
theorem GO (i:Int) (l:List bG):∀ v:List Int,(l.foldl (x8 i) v).length=v.length:=by
 induction l with
 | nil=>intro v; rfl
 | cons d l ih=>intro v; rw [List.foldl_cons,ih,Ju]
theorem JN (p:Int) (v:List Slot) (d:bG) (hd:nH d) (hv:∀ s∈v,Br s):(nN p v d).length=v.length/\∀ s∈nN p v d,Br s:=by
 simp only [nN]
 cases ((!(d.Block==p))||(decide (d.Slot<0)))||(decide ((v.length:Int)<=d.Slot)) with
 | true=>exact ⟨rfl,hv⟩
 | false =>
  cases d.Kind==2 with
  | true=>exact ⟨List.length_set,fun s hs=>(mem_set hs).elim (hv s) (fun e=>by rw [e]; show eS.size<=cM; decide)⟩
  | false =>
   cases (d.Kind==4)&&(decide (0<d.bx)) with
   | true=>exact ⟨List.length_set,fun s hs=>(mem_set hs).elim (hv s) (fun e=>by rw [e]; exact hd.1)⟩
   | false=>exact ⟨rfl,hv⟩
theorem GY (p:Int) (l:List bG):∀ v:List Slot,(∀ d∈l,nH d)->(∀ s∈v,Br s)->(l.foldl (nN p) v).length=v.length/\∀ s∈l.foldl (nN p) v,Br s:=by
 induction l with
 | nil=>intro v _ h; exact ⟨rfl,h⟩
 | cons d l ih =>
  intro v hl hv
  rw [List.foldl_cons]
  have h1:=JN p v d (hl d zO) hv
  have h2:=ih (nN p v d) (fun x hx=>hl x (zJ _ hx)) h1.2
  exact ⟨h2.1.trans h1.1,h2.2⟩
theorem Fo {m:Mem} (h:cE m):ja (yg m):=by
 have hm:=h.Fv
 refine ⟨hm.d.bb,hm.d.bi,?_,?_,?_,?_⟩
 ·show ((List.range' 0 8).map _).length<=cM; rw [List.length_map,List.length_range']; decide
 ·show ((List.range' 0 16).map _).length<=cM; rw [List.length_map,List.length_range']; decide
 ·intro x hx
  obtain ⟨i,_,rfl⟩:=List.mem_map.1 hx
  show (kO m _).ay.length<=cM
  simp only [kO]
  cases hw:within ((i+1:Nat):Int) 1 m.aa.ad.length with
  | false=>show (2:Nat)<=cM; decide
  | true =>
   rw [ak] at hw
   simp only [zE]
   rw [GO]
   exact hm.d.ino _ (aU az (by omega))
 ·intro b hb
  obtain ⟨i,_,rfl⟩:=List.mem_map.1 hb
  simp only [mB]
  cases hw:within ((i+1:Nat):Int) 1 m.aa.ab.length with
  | false=>exact ⟨Nat.zero_le _,by show eS.size<=cM; decide,fun s hs=>by cases hs⟩
  | true =>
   rw [ak] at hw
   simp only [zE]
   have hb:=hm.d.pd _ (aU aC (l:=m.aa.ab) (i:=(((i+1:Nat):Int)-1).toNat) (by omega))
   have:=GY ((i+1:Nat):Int) m.ae (aN m.aa ((i+1:Nat):Int)).ah hm.dep hb.2.2
   exact ⟨Nat.le_trans (Nat.le_of_eq this.1) hb.1,hb.2.1,this.2⟩
def fh (m:Mem) (u:Int):ByteArray×Bool:=bif fY m&&within u 0 20 then xd (yg m) u else (eS,false)
theorem FI {n:Nat} (hn:bk<=n) (m:Mem) (hm:ej m) (u:Int) (k:ByteArray->Bool->Option R):pI n m u k=k (fh m u).1 (fh m u).2:=by
 simp only [pI,fh,jh]
 rw [mY hn m hm]
 cases h1:fY m with
 | false=>rfl
 | true =>
  cases h2:within u 0 20 with
  | false=>rfl
  | true =>
   have hT:=(n6.1 h1).t hm
   simp only [zM,zN,zE,zF,Bool.or_false,Bool.and_true]
   rw [oD hn _ hm.d,N4 hn m hm hT.d.di,PT hn m hm hT.d.db]
   exact Hz hn (yg m) (Fo hT) u _
theorem j9 {α:Type} {L:Nat->Int->List α->Option R} {f:α->α} {B:Nat} {q:List α->Option R}
  (hs:∀ m (a b:List α) x,B<m->a.length+b.length<4611686018427387904->L (m+1) (a.length:Int) (a++x::b)=L m (aA ((a.length:Int)+1)) (a++f x::b))
  (hq:∀ m (a:List α),L (m+1) (a.length:Int) a=q a):∀ (b a:List α) (n:Nat),a.length+b.length<=4611686018427387904->b.length+B<n->L n (a.length:Int) (a++b)=q (a++b.map f)
 | [],a,n,hl,hn=>by
  cases n with
  | zero=>omega
  | succ n=>rw [List.append_nil,hq,List.map_nil,List.append_nil]
 | x::b,a,n,hl,hn=>by
  cases n with
  | zero=>omega
  | succ n =>
   rw [zR] at hl hn
   rw [hs n a b x (by omega) (by omega),bL (by omega)]
   have:=j9 hs hq b (a++[f x]) n (by rw [zK,zL]; omega) (by omega)
   rw [List.append_assoc,List.singleton_append,zK,zL,List.append_assoc,List.singleton_append] at this
   exact this
def mW (u:Int) (d:bG):bG:=bif (u==0)&&((d.Kind==1)||(d.Kind==2)) then { d with au:=true } else d
def m5 (u:Int) (d:bG):bG:=bif ((d.Kind==2)&&(aO d.Ino==u))||((d.Kind==1)&&(aG d.Block==u)) then { d with eJ:=true } else d
theorem RG (k2 k1:Bool) (a b u:Int):(((k2&&((bif k2 then a else 0)==u)))||(k1&&((bif (!(k2&&((bif k2 then a else 0)==u)))&&k1 then b else 0)==u)))=((k2&&(a==u))||(k1&&(b==u))):=by
 cases k2<;>cases k1<;>cases h:a==u<;>simp [h]
def flag (u:Int) (m:Mem):Mem:=⟨m.aa,m.an,m.ae.map fun d=>m5 u (mW u d),m.Next⟩
theorem Ji {n:Nat} (hn:bk<=n) (u:Int) (m:Mem) (hm:m.ae.length<=cM) (k:Mem->Option R):yt n u m k=k (flag u m):=by
 have J5:m.ae.length<=2097152:=hm
 have NZ:100000000<=n:=hn
 have:=j9 (R:=R) (L:=fE u (fun deps=>k ⟨m.aa,m.an,deps,m.Next⟩)) (f:=fun d=>m5 u (mW u d)) (B:=0) (q:=fun deps=>k ⟨m.aa,m.an,deps,m.Next⟩)
  (fun mm a b x _ hl=>by
   have hlen:∀ z:bG,(a++z::b).length=a.length+(b.length+1):=fun z=>by simp only [zK,zR]
   have fW:decide (a.length<a.length+(b.length+1))=true:=decide_eq_true (by omega)
   simp only [fE,zC,oZ _ (rfl:a.length=a.length),nT _ (rfl:a.length=a.length),hlen,bh,aF,fW,zE,bc,gB,eB,RG,mW]
   cases (u==0)&&((x.Kind==1)||(x.Kind==2)) with
   | true =>
    simp only [zE,m5]
    cases ((x.Kind==2)&&(aO x.Ino==u))||((x.Kind==1)&&(aG x.Block==u))<;>rfl
   | false =>
    simp only [zF,m5]
    cases ((x.Kind==2)&&(aO x.Ino==u))||((x.Kind==1)&&(aG x.Block==u))<;>rfl)
  (fun mm a=>by simp [fE]) m.ae [] n (by rw [List.length_nil]; omega) (by omega)
 exact this
theorem Eh {α β S:Type} {L:Nat->Int->List β->S->Option R} {l:List α} (d:α) {f:α->β} {g:S->α->S} {B:Nat} {q:List β->S->Option R} (hl:l.length<=4611686018427387904)
  (hs:∀ m i acc st,B<m->i<l.length->acc.length=i->L (m+1) (i:Int) acc st=L m (aA ((i:Int)+1)) (acc++[f (l.getD i d)]) (g st (l.getD i d)))
  (hq:∀ m acc st,L (m+1) (l.length:Int) acc st=q acc st):∀ (r j n:Nat) (acc:List β) (st:S),j+r=l.length->acc.length=j->r+B<n->L n (j:Int) acc st=q (acc++(l.drop j).map f) ((l.drop j).foldl g st)
 | 0,j,n,acc,st,hj,ha,hn=>by
  cases n with
  | zero=>omega
  | succ n =>
   have:j=l.length:=by omega
   subst this
   rw [hq,List.drop_length]; simp
 | r+1,j,n,acc,st,hj,ha,hn=>by
  cases n with
  | zero=>omega
  | succ n =>
   rw [hs n j acc st (by omega) (by omega) ha,bL (by omega),cQ d (by omega:j<l.length),List.foldl_cons,List.map_cons]
   have:=Eh d hl hs hq r (j+1) n (acc++[f (l.getD j d)]) (g st (l.getD j d)) (by omega) (by rw [zK,zL]; omega) (by omega)
   rw [List.append_assoc,List.singleton_append] at this
   exact this
def pending (l:List bG) (block:Int):Bool:=l.any fun d=>((d.Kind==1)||(d.Kind==6))&&(d.Block==block)
theorem Dg {n:Nat} (hn:bk<=n) (l:List bG) (hl:l.length<=cM) (block:Int) (k:Bool->Option R):nS n l block k=k (pending l block):=by
 have xX:l.length<=2097152:=hl
 have:=fj (R:=R) (L:=gy block l (fun x=>k x) (k false)) (l:=l) aJ (B:=0) (P:=fun d=> !(((d.Kind==1)||(d.Kind==6))&&(d.Block==block))) (e:=k true) (q:=k false) (by omega)
  (fun m i _ hi=>by
   simp only [gy,bh,aF,hi,zV,bc,zE,zC,Bool.or_true]
   cases (((l.getD i aJ).Kind==1)||((l.getD i aJ).Kind==6))&&((l.getD i aJ).Block==block)<;>rfl) (fun m=>by simp [gy]) (n:=n) (aH hn (by omega))
 refine this.trans ?_
 rw [AE (fun d:bG=>((d.Kind==1)||(d.Kind==6))&&(d.Block==block)),pending]
 cases l.any _<;>rfl
def jy (l:List bG) (d:bG):bG :=
 bif ((d.Kind==1)&&d.au)&&d.eJ then { d with Kind:=6 } else
 bif (((d.Kind==2)&&d.au)&&d.eJ)&&(!pending l d.Block) then { d with Kind:=3 } else d
def yV (l:List bG) (y:List Bool) (d:bG):List Bool :=
 bif ((d.Kind==1)&&d.au)&&d.eJ then bS (aO d.Ino) y else
 bif (((d.Kind==2)&&d.au)&&d.eJ)&&(!pending l d.Block) then bS (aG d.Block) y else y
def ready (m:Mem):Mem:=⟨m.aa,m.ae.foldl (yV m.ae) m.an,m.ae.map (jy m.ae),m.Next⟩
theorem Hb {n:Nat} (hn:bk<=n) (m:Mem) (hm:m.ae.length<=cM) (k:Mem->Option R):mw n m k=k (ready m):=by
 have J5:m.ae.length<=2097152:=hm
 have NZ:100000000<=n:=hn
 simp only [mw,List.nil_append]
 rw [aj (bZ (by omega))]
 have:=Eh (R:=R) (S:=List Bool) (L:=fun mm i acc y=>fQ n m.ae m.aa.au.ab m.aa.au.bF m.aa.ad m.aa.ab m.ae (fun next list bK=>k ⟨m.aa,bK,list,next⟩) mm i m.Next acc y) (l:=m.ae) aJ
  (f:=jy m.ae) (g:=yV m.ae) (B:=0) (q:=fun list bK=>k ⟨m.aa,bK,list,m.Next⟩) (by omega)
  (fun mm i acc y _ hi ha=>by
   have hlen:∀ z:bG,bg (acc++[z])=true:=fun z=>bZ (by rw [zK,zL]; omega)
   simp only [fQ,bh,aF,hi,zV,bc,zE,zC,gB,eB,dq,jS,Dg hn m.ae hm,hlen,jy,yV]
   cases h1:(((m.ae.getD i aJ).Kind==1)&&(m.ae.getD i aJ).au)&&(m.ae.getD i aJ).eJ with
   | true=>rfl
   | false =>
    simp only [zF]
    cases h2:(((m.ae.getD i aJ).Kind==2)&&(m.ae.getD i aJ).au)&&(m.ae.getD i aJ).eJ with
    | false=>rfl
    | true =>
     simp only [zE,Bool.true_and]
     cases pending m.ae (m.ae.getD i aJ).Block<;>rfl)
  (fun mm acc y=>by simp [fQ]) m.ae.length 0 n [] m.an (by omega) rfl (by omega)
 rw [List.drop_zero,List.nil_append] at this
 exact this
theorem rG {α S:Type} {L:Nat->Int->S->Option R} {l:List α} (d:α) (P:S->Prop) {g:S->α->S} {q:S->Option R} {B:Nat} (hl:l.length<=4611686018427387904)
  (hs:∀ m i acc,B<m->i<l.length->P acc->L (m+1) (i:Int) acc=L m (aA ((i:Int)+1)) (g acc (l.getD i d))/\P (g acc (l.getD i d)))
  (hq:∀ m acc,L (m+1) (l.length:Int) acc=q acc):∀ (r j n:Nat) (acc:S),j+r=l.length->r+B<n->P acc->L n (j:Int) acc=q ((l.drop j).foldl g acc)/\P ((l.drop j).foldl g acc)
 | 0,j,n,acc,hj,hn,hP=>by
  cases n with
  | zero=>omega
  | succ n =>
   have:j=l.length:=by omega
   subst this
   rw [hq,List.drop_length]; exact ⟨rfl,hP⟩
 | r+1,j,n,acc,hj,hn,hP=>by
  cases n with
  | zero=>omega
  | succ n =>
   obtain ⟨h1,h2⟩:=hs n j acc (by omega) (by omega) hP
   rw [h1,bL (by omega),cQ d (by omega:j<l.length),List.foldl_cons]
   exact rG d P hl hs hq r (j+1) n _ (by omega) (by omega) h2
def jF (bl:List Int) (bb:List Bool):List Bool:=bl.foldl (fun bb p=>bb.set (p-1).toNat false) bb
theorem P1 {n:Nat} (hn:bk<=n) (bl:List Int) (hl:bl.length<=cM) (hb:∀ p∈bl,1<=p/\p<=16) (bb:List Bool) (h16:bb.length=16) (q:List Bool->Option R) :
  gN bl q n 0 bb=q (jF bl bb)/\(jF bl bb).length=16:=by
 have xX:bl.length<=2097152:=hl
 have:=rG (R:=R) (L:=gN bl q) (l:=bl) 0 (fun bb=>bb.length=16) (g:=fun bb p=>bb.set (p-1).toNat false) (q:=q) (B:=0) (by omega)
  (fun m i acc _ hi ha=>by
   have hp:=hb _ (aU 0 hi)
   simp only [gN,bh,aF,hi,zV,bc,zE,zC]
   rw [bO (by omega) (by omega),aj (bz hp.1 (by omega))]
   exact ⟨rfl,List.length_set.trans ha⟩)
  (fun m acc=>by simp [gN]) bl.length 0 n bb (by omega) (aH hn (by omega)) h16
 rw [List.drop_zero] at this
 exact this
def oN (bl:List Int) (m:Mem) (x:bG):Mem:=bif (x.Kind==4)&&has bl x.Block then iI x.Ino (bd m x.Id) else m
def tA (d:bG) (m:Mem):Mem:=⟨⟨⟨jF d.ab m.aa.au.ab,m.aa.au.bF.set (d.Ino-1).toNat false⟩,m.aa.ad,m.aa.ab⟩,bS 0 m.an,m.ae,m.Next⟩
def tq (d:bG) (m:Mem):Mem:=(bd m d.Id).ae.foldl (oN d.ab) (tA d (bd m d.Id))
theorem zX {n:Nat} (hn:bk<=n) {m:Mem} (h:cE m) {i:Int} (h1:1<=i) (h2:i<=8) (k:Mem->Option R):my n i m k=k (iI i m):=by
 refine B4 hn m h.Fv i h1 (by rw [h.d.di]; exact h2) ?_ (by rw [h.d.sd h1 h2]; decide) k
 have:=h.d.sU h1 h2
 simp only [bp,zB] at this
 exact this.2.1
theorem dx {m:Mem} {d:bG} (h:bJ m d=true):1<=d.Ino/\d.Ino<=8:=by
 simp only [bJ,zB,ak] at h
 exact h.2.2.1
theorem GQ {n:Nat} (hn:bk<=n) (d:bG) (m:Mem) (h:cE m) (hi:1<=d.Ino/\d.Ino<=8) (hb:∀ p∈d.ab,1<=p/\p<=16) (YA:d.ab.length<=cM) (k:Mem->Option R) :
  rK n d m k=k (tq d m)/\cE (tq d m):=by
 have NZ:100000000<=n:=hn
 have h1:=h.drop d.Id
 have V8:=h1.dp
 simp only [rK]
 rw [oU hn m h.Fv]
 obtain ⟨e3,l3⟩:=P1 (R:=R) hn d.ab YA hb (bd m d.Id).aa.au.ab h1.d.bb (fun bb =>
  aK (aZ (aA (d.Ino-1)) (bd m d.Id).aa.au.bF.length) <|
  ca 0 ⟨⟨⟨bb,(bd m d.Id).aa.au.bF.set ((aA (d.Ino-1)).toNat) false⟩,(bd m d.Id).aa.ad,(bd m d.Id).aa.ab⟩,(bd m d.Id).an,(bd m d.Id).ae,(bd m d.Id).Next⟩ fun mo =>
  fa n (bd m d.Id).ae d.ab (fun next QP bi di db bK deps =>
   k ⟨⟨⟨QP,bi⟩,di,db⟩,bK,deps,next⟩) n 0 mo.Next bb ((bd m d.Id).aa.au.bF.set ((aA (d.Ino-1)).toNat) false) (bd m d.Id).aa.ad (bd m d.Id).aa.ab mo.an (bd m d.Id).ae)
 have h2:cE (tA d (bd m d.Id)):=(h1.ym (h1.d.tR (bb:=jF d.ab (bd m d.Id).aa.au.ab) (bi:=(bd m d.Id).aa.au.bF.set (d.Ino-1).toNat false) l3 (List.length_set.trans h1.d.bi))).mark 0
 have loop:=rG (R:=R) (S:=Mem) (L:=fun mm i acc=>fa n (bd m d.Id).ae d.ab (fun next QP bi di db bK deps=>k ⟨⟨⟨QP,bi⟩,di,db⟩,bK,deps,next⟩) mm i acc.Next acc.aa.au.ab acc.aa.au.bF acc.aa.ad acc.aa.ab acc.an acc.ae)
  (l:=(bd m d.Id).ae) aJ cE (g:=oN d.ab) (q:=k) (B:=0) (by omega)
  (fun mm i acc _ fW ha=>by
   have hx:=dx (h1.num _ (aU aJ fW))
   simp only [fa,bh,aF,fW,zV,bc,zE,zC,Bool.or_true,yF hn d.ab YA,oN]
   cases hk:((bd m d.Id).ae.getD i aJ).Kind==4 with
   | false=>exact ⟨rfl,ha⟩
   | true =>
    cases hh:has d.ab ((bd m d.Id).ae.getD i aJ).Block with
    | false=>exact ⟨rfl,ha⟩
    | true =>
     have hd:=ha.drop ((bd m d.Id).ae.getD i aJ).Id
     simp only [zE,Bool.and_true]
     refine ⟨?_,hd.iI hx.1 hx.2⟩
     refine (oU hn acc ha.Fv _ _).trans ?_
     exact zX hn hd hx.1 hx.2 _)
  (fun mm acc=>by simp [fa]) (bd m d.Id).ae.length 0 n (tA d (bd m d.Id)) (by omega) (by omega) h2
 rw [List.drop_zero] at loop
 refine ⟨?_,loop.2⟩
 refine e3.trans ?_
 rw [bO (by omega) (by omega),aj (bz hi.1 (by rw [h1.d.bi]; exact hi.2)),dq,jS]
 exact loop.1
def iK (u:Int) (o:Mem) (d:bG):Mem :=
 bif (d.Kind==6)&&(aO d.Ino==u) then bd o d.Id else
 bif (d.Kind==5)&&(aO d.Ino==u) then tq d o else
 bif (d.Kind==3)&&(aG d.Block==u) then shown d.Id 0 o else
 bif ((d.Kind==4)&&(d.bx==0))&&(aG d.Block==u) then iI d.Ino (bd o d.Id) else o
def clean (u:Int) (m:Mem):Mem:=⟨m.aa,m.an.set u.toNat false,m.ae,m.Next⟩
def done (m:Mem) (u:Int):Mem:=bif fY m&&within u 0 20 then ready (m.ae.foldl (iK u) (flag u (clean u m))) else m
theorem kQ (u:Int) (d:bG):(m5 u (mW u d)).Id=d.Id/\(m5 u (mW u d)).Kind=d.Kind/\(m5 u (mW u d)).Ino=d.Ino/\(m5 u (mW u d)).Ptr=d.Ptr/\(m5 u (mW u d)).Block=d.Block/\(m5 u (mW u d)).Slot=d.Slot/\(m5 u (mW u d)).Name=d.Name/\(m5 u (mW u d)).bx=d.bx/\(m5 u (mW u d)).ab=d.ab:=by
 simp only [mW,m5]
 cases (u==0)&&((d.Kind==1)||(d.Kind==2))<;>simp only [zE,zF] <;>
  cases ((d.Kind==2)&&(aO d.Ino==u))||((d.Kind==1)&&(aG d.Block==u))<;>simp
theorem FV {m m':Mem} {d d':bG} (hn:m'.Next=m.Next) (h1:d'.Id=d.Id) (h2:d'.Kind=d.Kind) (h3:d'.Ino=d.Ino) (h4:d'.Ptr=d.Ptr) (h5:d'.Block=d.Block) (h6:d'.Slot=d.Slot) (h7:d'.bx=d.bx):bJ m' d'=bJ m d:=by
 simp only [bJ,hn,h1,h2,h3,h4,h5,h6,h7]
theorem cE.flag {m:Mem} (h:cE m) (u:Int):cE (Soft.flag u m):=by
 refine ⟨h.d,h.dy,?_,h.n1,h.n2,?_,?_,?_⟩
 ·simp only [Soft.flag,List.length_map]; exact h.dp
 ·intro x hx
  simp only [Soft.flag,List.mem_map] at hx
  obtain ⟨d,hd,rfl⟩:=hx
  obtain ⟨a1,a2,a3,a4,a5,a6,a7,a8,a9⟩:=kQ u d
  exact (FV (m:=m) rfl a1 a2 a3 a4 a5 a6 a8).trans (h.num d hd)
 ·intro x hx
  simp only [Soft.flag,List.mem_map] at hx
  obtain ⟨d,hd,rfl⟩:=hx
  obtain ⟨a1,a2,a3,a4,a5,a6,a7,a8,a9⟩:=kQ u d
  rw [a9]; exact h.bs d hd
 ·intro x hx
  simp only [Soft.flag,List.mem_map] at hx
  obtain ⟨d,hd,rfl⟩:=hx
  obtain ⟨a1,a2,a3,a4,a5,a6,a7,a8,a9⟩:=kQ u d
  simp only [nH,a7,a9]; exact h.sz d hd
theorem JU {m m':Mem} (hn:m'.Next=m.Next) (l:List bG) {d:bG} (h:bJ m d=true):bJ m' (jy l d)=true:=by
 simp only [jy]
 cases ((d.Kind==1)&&d.au)&&d.eJ with
 | true =>
  simp only [bJ,zB,ak,zE,hn] at h ⊢
  exact ⟨h.1,by omega,h.2.2⟩
 | false =>
  cases (((d.Kind==2)&&d.au)&&d.eJ)&&(!pending l d.Block) with
  | true =>
   simp only [bJ,zB,ak,zE,zF,hn] at h ⊢
   exact ⟨h.1,by omega,h.2.2⟩
  | false=>rw [← h]; simp only [zF,bJ,hn]
theorem sN (l:List bG) (d:bG):(jy l d).Id=d.Id/\(jy l d).Ino=d.Ino/\(jy l d).Ptr=d.Ptr/\(jy l d).Block=d.Block/\(jy l d).Slot=d.Slot/\(jy l d).Name=d.Name/\(jy l d).bx=d.bx/\(jy l d).ab=d.ab:=by
 simp only [jy]
 cases ((d.Kind==1)&&d.au)&&d.eJ<;>simp only [zE,zF] <;>
  cases (((d.Kind==2)&&d.au)&&d.eJ)&&(!pending l d.Block)<;>simp
theorem vL (l:List bG):∀ (s:List bG) (y:List Bool),(s.foldl (yV l) y).length=y.length
 | [],y=>rfl
 | d::s,y=>by
  rw [List.foldl_cons,vL l s]
  simp only [yV]
  cases ((d.Kind==1)&&d.au)&&d.eJ<;>simp only [zE,zF,cR]
  cases (((d.Kind==2)&&d.au)&&d.eJ)&&(!pending l d.Block)<;>simp only [zE,zF,cR]
theorem cE.ready {m:Mem} (h:cE m):cE (Soft.ready m):=by
 refine ⟨h.d,(vL _ _ _).trans h.dy,?_,h.n1,h.n2,?_,?_,?_⟩
 ·simp only [Soft.ready,List.length_map]; exact h.dp
 ·intro x hx
  simp only [Soft.ready,List.mem_map] at hx
  obtain ⟨d,hd,rfl⟩:=hx
  exact JU rfl _ (h.num d hd)
 ·intro x hx
  simp only [Soft.ready,List.mem_map] at hx
  obtain ⟨d,hd,rfl⟩:=hx
  rw [(sN _ d).2.2.2.2.2.2.2]; exact h.bs d hd
 ·intro x hx
  simp only [Soft.ready,List.mem_map] at hx
  obtain ⟨d,hd,rfl⟩:=hx
  have:=sN m.ae d
  simp only [nH,this.2.2.2.2.2.1,this.2.2.2.2.2.2.2]; exact h.sz d hd
theorem cE.clean {m:Mem} (h:cE m) (u:Int):cE (Soft.clean u m):=h.bK (List.length_set.trans h.dy)
theorem KU {n:Nat} (hn:bk<=n) (m:Mem) (hm:ej m) (u:Int) (k:Mem->Option R) :
  FN n m u k=k (done m u)/\(done m u=m\/(fY m=true/\cE (done m u))):=by
 have NZ:100000000<=n:=hn
 simp only [FN,done,jh]
 rw [ee hn m hm,mY hn m hm]
 cases xV:fY m with
 | false=>exact ⟨rfl,.inl rfl⟩
 | true =>
 cases hw:within u 0 20 with
 | false=>exact ⟨rfl,.inl rfl⟩
 | true =>
 have hT:=(n6.1 xV).t hm
 have V8:=hT.dp
 rw [ak] at hw
 simp only [zM,zN,zE,zF,Bool.or_false,Bool.and_true]
 rw [aj (by simp only [aZ,zB,zD]; have:=hT.dy; omega),Ji hn u ⟨m.aa,m.an.set u.toNat false,m.ae,m.Next⟩ hm.dp]
 have h2:cE (flag u (clean u m)):=(hT.clean u).flag u
 have loop:=rG (R:=R) (S:=Mem) (L:=fun mm i acc=>iN n u m.ae (fun v eM dz gr jk lW ia=>mw n ⟨⟨⟨eM,dz⟩,gr,jk⟩,lW,ia,v⟩ fun ku=>k ku) mm i acc.Next acc.aa.au.ab acc.aa.au.bF acc.aa.ad acc.aa.ab acc.an acc.ae)
  (l:=m.ae) aJ cE (g:=iK u) (q:=fun o=>mw n o k) (B:=0) (by omega)
  (fun mm i acc _ fW ha=>by
   have eP:=aU aJ fW
   have hx:=dx (hT.num _ eP)
   have Rq:=hT.bs _ eP
   have mH:=hT.sz _ eP
   generalize NH:m.ae.getD i aJ=el at hx Rq mH
   simp only [iN,bh,aF,fW,zV,bc,zE,zC,gB,eB,iK,NH]
   have e6:((el.Kind==6)&&((bif el.Kind==6 then aO el.Ino else 0)==u))=((el.Kind==6)&&(aO el.Ino==u)):=by cases el.Kind==6<;>rfl
   have e5:((el.Kind==5)&&((bif el.Kind==5 then aO el.Ino else 0)==u))=((el.Kind==5)&&(aO el.Ino==u)):=by cases el.Kind==5<;>rfl
   have e3:((el.Kind==3)&&((bif el.Kind==3 then aG el.Block else 0)==u))=((el.Kind==3)&&(aG el.Block==u)):=by cases el.Kind==3<;>rfl
   have e4:(((el.Kind==4)&&(el.bx==0))&&((bif (el.Kind==4)&&(el.bx==0) then aG el.Block else 0)==u))=(((el.Kind==4)&&(el.bx==0))&&(aG el.Block==u)):=by cases (el.Kind==4)&&(el.bx==0)<;>rfl
   rw [e6,e5,e3,e4]
   cases h6:(el.Kind==6)&&(aO el.Ino==u) with
   | true=>simp only [zE]; exact ⟨oU hn acc ha.Fv _ _,ha.drop _⟩
   | false =>
   simp only [zF]
   cases h5:(el.Kind==5)&&(aO el.Ino==u) with
   | true =>
    have:=fun k=>GQ (R:=R) hn el acc ha hx (fun p hp=>ak.1 (List.all_eq_true.1 Rq p hp)) mH.2 k
    simp only [zE]
    exact ⟨(this _).1,(this fun _=>none).2⟩
   | false =>
   simp only [zF]
   cases h3:(el.Kind==3)&&(aG el.Block==u) with
   | true=>simp only [zE]; exact ⟨zy hn acc ha.Fv _ _ _,ha.shown _ _ (Int.le_refl 0) (by have:=ha.n1; omega)⟩
   | false =>
   simp only [zF]
   cases h4:((el.Kind==4)&&(el.bx==0))&&(aG el.Block==u) with
   | true =>
    have hd:=ha.drop el.Id
    simp only [zE]
    refine ⟨?_,hd.iI hx.1 hx.2⟩
    refine (oU hn acc ha.Fv _ _).trans ?_
    exact zX hn hd hx.1 hx.2 _
   | false=>exact ⟨rfl,ha⟩)
  (fun mm acc=>by simp [iN]) m.ae.length 0 n (flag u (clean u m)) (by omega) (by omega) h2
 rw [List.drop_zero] at loop
 refine ⟨?_,.inr ⟨trivial,loop.2.ready⟩⟩
 refine loop.1.trans ?_
 exact Hb hn _ (Nat.le_trans loop.2.dp (by decide)) k
def da (m:Mem) (i:Int):Mem:=⟨aQ m.aa i ⟨(ai m.aa i).Kind,(ai m.aa i).Links+1,(ai m.aa i).ay⟩,bS (aO i) m.an,m.ae,m.Next⟩
def Fh (m:Mem) (f:Int×Int×Int) (t:Mem×Int):Mem×Int:=bif t.2==0 then (m,4) else (eN t.1 f.1 f.2.1 t.2,0)
def yI (m:Mem) (f:Int×Int×Int) (w:Int) (to name q:ByteArray):Mem×Int :=
 bif (f.2.2==0)||(w==0) then (m,1) else
 bif (!((ai m.aa f.2.2).Kind==1))||(!((ai m.aa w).Kind==2)) then (m,3) else
 bif !(aD m.aa q==0) then (m,2) else
 bif waits m w name||deep m to then (m,5) else
 bif !room m then (m,4) else
 bif decide (200<=(ai m.aa f.2.2).Links) then (m,5) else
 Fh m f (dR (da m f.2.2) w name f.2.2)
def jt (m:Mem) (p q:ByteArray):Mem×Int :=
 bif ((!fY m)||(!(ao p).2.2))||(!(ao q).2.2) then (m,6) else
 yI m (find m.aa (aD m.aa (ao p).1) (ao p).2.1) (aD m.aa (ao q).1) (ao q).1 (ao q).2.1 q
def dA (f:Fs) (u:Int):Fs×Bool :=
 bif (!LU f)||(!(fh f.Mem u).2) then (f,false) else
 bif !(gz f.Device u (fh f.Mem u).1).2 then (f,false) else (⟨done f.Mem u,(gz f.Device u (fh f.Mem u).1).1⟩,true)
end Go.Soft
namespace Go.Soft
open Go
def I8 (i:Int):Prop:=1<=i/\i<=8
def lQ (p:Int):Prop:=1<=p/\p<=16
def aY (d:aa) (i:Int) (k:Nat):Int:=(ai d i).ay.getD k 0
def aW (d:aa) (i:Int):Int:=(ai d i).Kind
def gU (d:aa) (i:Int):Int:=(ai d i).Links
def cF (d:aa) (p:Int) (s:Nat):Slot:=(aN d p).ah.getD s aq
def Cx (d:aa) (p:Int):Bool:=d.au.ab.getD (p-1).toNat false
def Dj (d:aa) (i:Int):Bool:=d.au.bF.getD (i-1).toNat false
def nq (d:aa) (p:Int):Prop:=∃ i k,I8 i/\aW d i=2/\aY d i k=p
def rm (d:aa) (p:Int):Bool:=d.ad.any fun x=>x.Kind==2&&has x.ay p
def wG (b:Block) (j:Int):Nat:=b.ah.countP (·.Ino==j)
def kg (d:aa) (j p:Int):Nat:=bif rm d p then wG (aN d p) j else 0
def lj (d:aa) (j:Int):Nat:=((List.range' 1 16).map fun q:Nat=>kg d j q).sum
def gI (l:List bG) (j:Int):Nat:=l.countP fun d=>d.Kind==4&&d.Ino==j
theorem cK {α:Type} (l:List α) (i j:Nat) (x d:α):(l.set i x).getD j d=if j=i/\i<l.length then x else l.getD j d:=by
 simp only [zT,List.getElem?_set]
 by_cases h:i=j
 ·subst h
  by_cases h2:i<l.length
  ·simp [h2]
  ·simp [h2]
 ·simp [h,Ne.symm h]
theorem nQ {d:aa} (h:d.ad.length=8) {i j:Int} (hi:I8 i) (hj:I8 j) (x:aV):ai (aQ d i x) j=if j=i then x else ai d j:=by
 simp only [ai,aQ,cK,h]
 obtain ⟨a,b⟩:=hi; obtain ⟨a',b'⟩:=hj
 by_cases hh:j=i
 ·subst hh; simp; omega
 ·rw [if_neg (by omega),if_neg hh]
theorem iA {d:aa} (h:d.ab.length=16) {p q:Int} (hp:lQ p) (hq:lQ q) (b:Block):aN (ch d p b) q=if q=p then b else aN d q:=by
 simp only [aN,ch,cK,h]
 obtain ⟨a,b⟩:=hp; obtain ⟨a',b'⟩:=hq
 by_cases hh:q=p
 ·subst hh; simp; omega
 ·rw [if_neg (by omega),if_neg hh]
theorem FA {l:List Int} {x:Int}:has l x=true↔x∈l:=by simp [has]
theorem m9 {l:List Int} {x:Int} (hx:x≠0):x∈l↔∃ k,l.getD k 0=x:=by
 constructor
 ·intro h
  obtain ⟨k,hk,rfl⟩:=List.mem_iff_getElem.1 h
  exact ⟨k,fq _ _ hk⟩
 ·rintro ⟨k,rfl⟩
  by_cases hk:k<l.length
  ·exact aU 0 hk
  ·exact absurd (by simp [zT,List.getElem?_eq_none (Nat.le_of_not_lt hk)]) hx
theorem I8.mem {d:aa} (h:d.ad.length=8) {x:aV}:x∈d.ad↔∃ i,I8 i/\ai d i=x:=by
 constructor
 ·intro hx
  obtain ⟨k,hk,rfl⟩:=List.mem_iff_getElem.1 hx
  refine ⟨(k:Int)+1,⟨by omega,by omega⟩,?_⟩
  simp only [ai]
  rw [show ((k:Int)+1-1).toNat=k by omega]
  exact fq _ _ hk
 ·rintro ⟨i,⟨a,b⟩,rfl⟩
  exact aU _ (by omega)
theorem jP {d:aa} (h:d.ad.length=8) {p:Int} (hp:p≠0):rm d p=true↔nq d p:=by
 simp only [rm,List.any_eq_true,zB,beq_iff_eq,FA,nq]
 constructor
 ·rintro ⟨x,hx,hk,hm⟩
  obtain ⟨i,hi,rfl⟩:=(I8.mem h).1 hx
  obtain ⟨k,uZ⟩:=(m9 hp).1 hm
  exact ⟨i,k,hi,hk,uZ⟩
 ·rintro ⟨i,k,hi,hk,hm⟩
  exact ⟨_,(I8.mem h).2 ⟨i,hi,rfl⟩,hk,(m9 hp).2 ⟨k,hm⟩⟩
theorem DM {l:List Nat} {f g:Nat->Nat} (h:∀ q∈l,f q=g q):(l.map f).sum=(l.map g).sum:=by rw [List.map_congr_left h]
theorem KZ {f g:Nat->Nat} {p:Nat}:∀ {l:List Nat},l.Nodup->p∈l->(∀ q∈l,q≠p->f q=g q)->(l.map f).sum+g p=(l.map g).sum+f p
 | [],_,hp,_=>by cases hp
 | x::l,hn,hp,h=>by
  simp only [List.map_cons,List.sum_cons]
  obtain ⟨h1,h2⟩:=List.nodup_cons.1 hn
  by_cases hx:x=p
  ·subst hx
   have:(l.map f).sum=(l.map g).sum:=DM fun q hq=>h q (zJ _ hq) (by rintro rfl; exact h1 hq)
   omega
  ·have yX:p∈l:=by
    cases hp with
    | head=>exact absurd rfl hx
    | tail _ h=>exact h
   have:=KZ h2 yX fun q hq=>h q (zJ _ hq)
   have:=h x zO hx
   omega
theorem oi {d d':aa} {j:Int} (h:∀ p,lQ p->kg d' j p=kg d j p):lj d' j=lj d j :=
 DM fun q hq=>h q (by simp [List.mem_range'] at hq; exact ⟨by omega,by omega⟩)
theorem Sv {d d':aa} {j p:Int} (hp:lQ p) (h:∀ q,lQ q->q≠p->kg d' j q=kg d j q):lj d' j+kg d j p=lj d j+kg d' j p:=by
 obtain ⟨p1,p2⟩:=hp
 have:=KZ (f:=fun q:Nat=>kg d' j q) (g:=fun q:Nat=>kg d j q) (p:=p.toNat) (l:=List.range' 1 16) List.nodup_range' (by rw [List.mem_range'_1]; omega)
  (fun q hq cT=>h q (by simp [List.mem_range'] at hq; exact ⟨by omega,by omega⟩) (by omega))
 simp only [Int.toNat_of_nonneg (show 0<=p by omega)] at this
 exact this
theorem HG {f:Nat->Nat}:∀ {l:List Nat},(l.map f).sum=0↔∀ q∈l,f q=0
 | []=>by simp
 | x::l=>by simp [HG (l:=l)]
theorem qS {b:Block} {j:Int}:wG b j=0↔∀ s∈b.ah,s.Ino≠j:=by simp [wG]
theorem OE {d:aa} {j:Int}:lj d j=0↔∀ p,lQ p->rm d p=true->∀ s∈(aN d p).ah,s.Ino≠j:=by
 simp only [lj,HG]
 constructor
 ·intro h p hp ho
  have:=h p.toNat (by rw [List.mem_range'_1]; obtain ⟨a,b⟩:=hp; omega)
  rw [Int.toNat_of_nonneg (by obtain ⟨a,b⟩:=hp; omega)] at this
  simp only [kg,ho,zE] at this
  exact qS.1 this
 ·intro h q hq
  have hq':lQ (q:Int):=by simp [List.mem_range'] at hq; exact ⟨by omega,by omega⟩
  simp only [kg]
  cases ho:rm d q with
  | false=>rfl
  | true=>exact qS.2 (h q hq' ho)
theorem countP_set {α:Type} (P:α->Bool) (x d:α):∀ (l:List α) (i:Nat),i<l.length->(l.set i x).countP P+(bif P (l.getD i d) then 1 else 0)=l.countP P+(bif P x then 1 else 0)
 | [],i,h=>by simp at h
 | y::l,0,h=>by
  simp only [List.set_cons_zero,List.countP_cons,List.getD_cons_zero]
  cases P x<;>cases P y<;>simp
 | y::l,i+1,h=>by
  have:=countP_set P x d l i (by simpa using h)
  simp only [List.set_cons_succ,List.countP_cons,List.getD_cons_succ]
  omega
theorem Nf {b:Block} {s:Nat} (hs:s<b.ah.length) (x:Slot) (j:Int):wG (ff b s x) j+(if (b.ah.getD s aq).Ino=j then 1 else 0)=wG b j+(if x.Ino=j then 1 else 0):=by
 have:=countP_set (fun s:Slot=>s.Ino==j) x aq b.ah s hs
 simp only [wG,ff]
 have e:∀ y:Slot,(bif y.Ino==j then 1 else 0)=(if y.Ino=j then 1 else 0):=fun y=>by
  by_cases h:y.Ino=j
  ·simp [h]
  ·rw [beq_eq_false_iff_ne.2 h]; simp [h]
 rw [e,e] at this
 exact this
structure DG (d:aa):Prop where
 one:∀ i k j l,I8 i->I8 j->aY d i k=aY d j l->aY d i k≠0->i=j/\k=l
 bm:∀ i k,I8 i->aY d i k≠0->Cx d (aY d i k)=true
 NL:∀ i,I8 i->aW d i≠0->Dj d i=true
 pk:∀ i k,I8 i->aY d i k≠0->((aN d (aY d i k)).cf=true↔aW d i=2)
 nm:∀ p s,lQ p->nq d p->(cF d p s).Ino≠0->aW d (cF d p s).Ino≠0/\(cF d p s).Ino≠1
 ne:∀ i k s,I8 i->i≠1->aW d i=2->lj d i=0->aY d i k≠0->(cF d (aY d i k) s).Ino=0
 dl:∀ j,I8 j->aW d j=2->gU d j=1
 rt:aW d 1=2
 un:∀ i k l s t,I8 i->aW d i=2->aY d i k≠0->aY d i l≠0->(cF d (aY d i k) s).Ino≠0->(cF d (aY d i k) s).Name=(cF d (aY d i l) t).Name->k=l/\s=t
 rk:∃ r:Int->Nat,r 1=0/\∀ i k s,I8 i->aW d i=2->aY d i k≠0->(cF d (aY d i k) s).Ino≠0->aW d (cF d (aY d i k) s).Ino=2->r (cF d (aY d i k) s).Ino=r i+1/\r i<4
structure Gd (e:Int) (X:List Int) (m:Mem):Prop where
 R:fK m
 sz:∀ d∈m.ae,nH d
 g:DG m.aa
 fr:∀ d∈m.ae,d.Kind=5->aW m.aa d.Ino=0/\Dj m.aa d.Ino=true/\d.ab.Nodup/\∀ p∈d.ab,Cx m.aa p=true/\∀ i k,I8 i->aY m.aa i k≠p
 EM:m.ae.Pairwise fun a b=>a.Kind=5->b.Kind=5->a.Ino≠b.Ino/\∀ p∈a.ab,p∉b.ab
 lk:∀ j,I8 j->j≠1->aW m.aa j≠0->gU m.aa j=(lj m.aa j:Int)+gI m.ae j+(if e=j then 1 else 0)
 C2:∀ j,I8 j->aW m.aa j=0->gI m.ae j=0/\e≠j
 rt:gI m.ae 1=0/\e≠1
 nd:∀ d∈m.ae,d.Kind=2\/d.Kind=3->nq m.aa d.Block
 rd:∀ d∈m.ae,d.Kind=4->cF m.aa d.Block d.Slot.toNat=aq/\(nq m.aa d.Block\/d.Block∈X\/∃ f∈m.ae,f.Kind=5/\d.Block∈f.ab)
 us:m.ae.Pairwise fun a b=>jV a=true->jV b=true->a.Block=b.Block->a.Slot≠b.Slot
 af:∀ d∈m.ae,d.Kind=4->d.bx≠0->∃ x∈m.ae,x.Id=d.bx/\(x.Kind=2\/x.Kind=3)/\x.Ino=d.Ino
theorem Gd.T {e:Int} {X:List Int} {m:Mem} (h:Gd e X m):cE m :=
 h.R.t ⟨h.R.d.t.sz,by rw [h.R.dy]; decide,Nat.le_trans h.R.dp (by decide),h.sz⟩
theorem Gd.bK {e:Int} {X:List Int} {m:Mem} (h:Gd e X m) {y:List Bool} (hy:y.length=21):Gd e X ⟨m.aa,y,m.ae,m.Next⟩ :=
 ⟨h.R.bK hy,h.sz,h.g,h.fr,h.EM,h.lk,h.C2,h.rt,h.nd,h.rd,h.us,h.af⟩
theorem cJ.ptr {d:aa} (h:cJ d) {i:Int} (hi:I8 i) (k:Nat):(k<=1/\lQ (aY d i k))\/aY d i k=0:=by
 have h1:=h.sU hi.1 hi.2
 by_cases hk:k<(ai d i).ay.length
 ·have h2:=jD h1
  simp only [bp,zB,List.all_eq_true] at h1
  have:=(h1.2.2.2.1 _ (aU 0 hk)).1
  rw [ak] at this
  by_cases h0:aY d i k=0
  ·exact .inr h0
  ·exact .inl ⟨by omega,by simp only [aY] at h0 ⊢; constructor<;>omega⟩
 ·exact .inr (by simp [aY,zT,List.getElem?_eq_none (Nat.le_of_not_lt hk)])
theorem cJ.slot {d:aa} (h:cJ d) {p:Int} (hp:lQ p) (s:Nat):cF d p s=aq\/(s<=3/\(aN d p).cf=true/\pV (cF d p s)=true):=by
 have h1:=h.nM hp.1 hp.2
 by_cases hs:s<(aN d p).ah.length
 ·cases hd:(aN d p).cf with
  | false=>simp only [gw,hd,zF,zB,beq_iff_eq] at h1; omega
  | true=>exact .inr ⟨by have:=dm h1 hd; omega,rfl,tt h1 hd (aU aq hs)⟩
 ·exact .inl (by simp [cF,zT,List.getElem?_eq_none (Nat.le_of_not_lt hs)])
theorem MD {s:Slot} (h:pV s=true):s=⟨eS,0⟩\/(bN s.Name=true/\I8 s.Ino):=by
 obtain ⟨n,i⟩:=s
 simp only [pV,Bool.or_eq_true,zB,beq_iff_eq,ak] at h
 rcases h with ⟨rfl,rfl⟩ | ⟨a,b⟩
 ·exact .inl rfl
 ·exact .inr ⟨a,b⟩
theorem H8:aq=⟨eS,0⟩:=rfl
theorem cJ.wH {d:aa} (h:cJ d) {p:Int} (hp:lQ p) (s:Nat):cF d p s=aq\/(s<=3/\(aN d p).cf=true/\bN (cF d p s).Name=true/\I8 (cF d p s).Ino):=by
 rcases h.slot hp s with h | ⟨h1,h2,h3⟩
 ·exact .inl h
 ·rcases MD h3 with h | ⟨a,b⟩
  ·exact .inl h
  ·exact .inr ⟨h1,h2,a,b⟩
theorem oJ {d d':aa} (hk:∀ i,I8 i->aW d' i=aW d i) (hp:∀ i k,I8 i->aY d' i k=aY d i k) (p:Int):nq d' p↔nq d p:=by
 constructor
 ·rintro ⟨i,k,hi,h1,h2⟩; exact ⟨i,k,hi,by rw [← hk i hi]; exact h1,by rw [← hp i k hi]; exact h2⟩
 ·rintro ⟨i,k,hi,h1,h2⟩; exact ⟨i,k,hi,by rw [hk i hi]; exact h1,by rw [hp i k hi]; exact h2⟩
theorem x5 {d d':aa} (h8:d.ad.length=8) (Y0:d'.ad.length=8) {p:Int} (hp:p≠0) (h:nq d' p↔nq d p):rm d' p=rm d p:=by
 rw [Bool.eq_iff_iff,jP h8 hp,jP Y0 hp,h]
theorem vz {d d':aa} (hb:d'.ab=d.ab) (p:Int):aN d' p=aN d p:=by simp only [aN,hb]
theorem PG {d d':aa} (hb:d'.ab=d.ab) (p:Int) (s:Nat):cF d' p s=cF d p s:=by simp only [cF,vz hb]
theorem oO {d d':aa} (h8:d.ad.length=8) (Y0:d'.ad.length=8) (hk:∀ i,I8 i->aW d' i=aW d i) (hp:∀ i k,I8 i->aY d' i k=aY d i k) (hb:d'.ab=d.ab) (j:Int):lj d' j=lj d j :=
 oi fun p yX=>by
  simp only [kg,vz hb]
  rw [x5 h8 Y0 (by obtain ⟨a,b⟩:=yX; omega) (oJ hk hp p)]
theorem DG.same {d d':aa} (T:cJ d) (g:DG d) (h8:d'.ad.length=8) (hb:d'.ab=d.ab) (hk:∀ i,I8 i->aW d' i=aW d i) (hp:∀ i k,I8 i->aY d' i k=aY d i k)
  (hl:∀ i,I8 i->aW d i=2->gU d' i=gU d i) (hm:∀ i k,I8 i->aY d i k≠0->Cx d' (aY d i k)=true) (hi:∀ i,I8 i->aW d i≠0->Dj d' i=true):DG d':=by
 have ho:=oJ hk hp
 have hs:=PG hb
 have hc:=oO T.di h8 hk hp hb
 have hB:∀ i k,I8 i->aY d i k≠0->lQ (aY d i k):=fun i k hi h0=>((T.ptr hi k).resolve_right h0).2
 have hI:∀ p s,lQ p->(cF d p s).Ino≠0->I8 (cF d p s).Ino:=fun p s hp h0=>by
  rcases T.wH hp s with h | h
  ·rw [h] at h0; exact absurd rfl h0
  ·exact h.2.2.2
 refine ⟨?_,?_,?_,?_,?_,?_,?_,?_,?_,?_⟩
 ·intro i k j l hi hj; rw [hp i k hi,hp j l hj]; exact g.one i k j l hi hj
 ·intro i k hi; rw [hp i k hi]; exact hm i k hi
 ·intro i h1; rw [hk i h1]; exact hi i h1
 ·intro i k h1; rw [hp i k h1,hk i h1,vz hb]; exact g.pk i k h1
 ·intro p s h1 h2 h3; rw [hs] at h3 ⊢; rw [ho] at h2; rw [hk _ (hI p s h1 h3)]; exact g.nm p s h1 h2 h3
 ·intro i k s h1 h2 h3 h4 h5; rw [hp i k h1] at h5 ⊢; rw [hs]; rw [hk i h1] at h3; rw [hc] at h4; exact g.ne i k s h1 h2 h3 h4 h5
 ·intro j h1 h2; rw [hk j h1] at h2; rw [hl j h1 h2]; exact g.dl j h1 h2
 ·rw [hk 1 ⟨by omega,by omega⟩]; exact g.rt
 ·intro i k l s t h1 h2 h3 h4; rw [hp i k h1] at h3 ⊢; rw [hp i l h1] at h4 ⊢; rw [hk i h1] at h2; rw [hs,hs]; exact g.un i k l s t h1 h2 h3 h4
 ·obtain ⟨r,r1,r2⟩:=g.rk
  refine ⟨r,r1,fun i k s h1 h2 h3 h4 h5=> ?_⟩
  rw [hp i k h1] at h3 h4 h5 ⊢; rw [hs] at h4 h5 ⊢; rw [hk i h1] at h2; rw [hk _ (hI _ s (hB i k h1 h3) h4)] at h5
  exact r2 i k s h1 h2 h3 h4 h5
end Go.Soft
namespace Go.Soft
open Go
variable {e:Int} {X:List Int} {m:Mem}
theorem pR {l:List bG} {P:bG->Bool} (h:∀ d∈l,d.Kind=4->P d=true) (j:Int):gI (l.filter P) j=gI l j:=by
 simp only [gI,List.countP_filter]
 apply List.countP_congr
 intro d hd
 constructor
 ·intro h1; simp only [zB] at h1 ⊢; exact h1.1
 ·intro h1
  have h2:d.Kind=4:=by simp only [zB,beq_iff_eq] at h1; exact h1.1
  simp only [zB] at h1 ⊢
  exact ⟨h1,h d hd h2⟩
theorem Gd.sub (h:Gd e X m) {P:bG->Bool} (hP:∀ d∈m.ae,d.Kind≠1->d.Kind≠6->P d=true):Gd e X ⟨m.aa,m.an,m.ae.filter P,m.Next⟩:=by
 have hs:=List.filter_sublist (p:=P) (l:=m.ae)
 have hr:=pR (l:=m.ae) (P:=P) fun d hd h4=>hP d hd (by omega) (by omega)
 refine ⟨h.R.less hs,fun d hd=>h.sz d (hs.subset hd),h.g,fun d hd=>h.fr d (hs.subset hd),h.EM.sublist hs,?_,?_,?_,fun d hd=>h.nd d (hs.subset hd),?_,h.us.sublist hs,?_⟩
 ·intro j; rw [hr]; exact h.lk j
 ·intro j; rw [hr]; exact h.C2 j
 ·rw [hr]; exact h.rt
 ·intro d hd h4
  obtain ⟨a,b⟩:=h.rd d (hs.subset hd) h4
  refine ⟨a,?_⟩
  rcases b with b | b | ⟨f,hf,C6,Gn⟩
  ·exact .inl b
  ·exact .inr (.inl b)
  ·exact .inr (.inr ⟨f,List.mem_filter.2 ⟨hf,hP f hf (by omega) (by omega)⟩,C6,Gn⟩)
 ·intro d hd h4 h0
  obtain ⟨x,hx,a,b,c⟩:=h.af d (hs.subset hd) h4 h0
  exact ⟨x,List.mem_filter.2 ⟨hx,hP x hx (by omega) (by omega)⟩,a,b,c⟩
theorem p5 {l:List bG} (hp:l.Pairwise fun a b=>¬ a.Id=b.Id):∀ {a b:bG},a∈l->b∈l->a.Id=b.Id->a=b:=by
 induction l with
 | nil=>intro a b ha; cases ha
 | cons x l ih =>
  rw [List.pairwise_cons] at hp
  intro a b ha hb he
  rcases zI.1 ha with h1 | h1<;>rcases zI.1 hb with h2 | h2
  ·rw [h1,h2]
  ·rw [h1] at he; exact absurd he (hp.1 b h2)
  ·rw [h2] at he; exact absurd he.symm (hp.1 a h1)
  ·exact ih hp.2 h1 h2 he
theorem rJ {l:List bG} (hp:l.Pairwise fun a b=>¬ a.Id=b.Id) {d:bG} (hd:d∈l) (P:bG->Bool):(l.filter fun x=> !(x.Id==d.Id)).countP P+(bif P d then 1 else 0)=l.countP P:=by
 induction l with
 | nil=>cases hd
 | cons x l ih =>
  rw [List.pairwise_cons] at hp
  rcases zI.1 hd with rfl | z6
  ·have:l.filter (fun y=> !(y.Id==d.Id))=l:=List.filter_eq_self.2 fun y hy=>by
    have:=hp.1 y hy
    simp; exact fun h=>this h.symm
   simp only [List.filter_cons,beq_self_eq_true,zM,Bool.false_eq_true,if_false,this,List.countP_cons]
   cases P d<;>rfl
  ·have cT:(x.Id==d.Id)=false:=by simpa using hp.1 d z6
   have:=ih hp.2 z6
   simp only [List.filter_cons,cT,zN,if_true,List.countP_cons]
   omega
theorem dN {l:List bG} {x:bG} {id:Int}:x∈l.filter (fun x=> !(x.Id==id))↔x∈l/\x.Id≠id:=by simp [List.mem_filter]
theorem Gd.S2 (h:Gd 0 X m) {d:bG} (hd:d∈m.ae) (h4:d.Kind=4):Gd d.Ino X (bd m d.Id):=by
 have hs:=List.filter_sublist (p:=fun x:bG=> !(x.Id==d.Id)) (l:=m.ae)
 have hI:=dx (h.R.num d hd)
 have hr:∀ j,gI (m.ae.filter fun x=> !(x.Id==d.Id)) j+(if d.Ino=j then 1 else 0)=gI m.ae j:=fun j=>by
  have:=rJ h.R.ids hd (fun x=>x.Kind==4&&x.Ino==j)
  refine Eq.trans ?_ this
  show gI _ j+_=gI _ j+_
  congr 1
  by_cases hj:d.Ino=j
  ·simp [h4,hj]
  ·rw [if_neg hj,beq_eq_false_iff_ne.2 hj,Bool.and_false]; rfl
 have hk:aW m.aa d.Ino≠0:=fun h0=>by
  have:=(h.C2 d.Ino hI h0).1
  have h2:=hr d.Ino
  simp at h2; omega
 have h1:d.Ino≠1:=fun h0=>by
  have:=h.rt.1
  have h2:=hr d.Ino
  rw [h0] at h2; simp at h2; omega
 refine ⟨h.R.drop d.Id,fun d hd=>h.sz d (hs.subset hd),h.g,fun d hd=>h.fr d (hs.subset hd),h.EM.sublist hs,?_,?_,?_,fun d hd=>h.nd d (hs.subset hd),?_,h.us.sublist hs,?_⟩
 ·intro j hj AI lN
  have e1:=h.lk j hj AI lN
  have e2:=hr j
  obtain ⟨a,b⟩:=hj
  rw [if_neg (by omega)] at e1
  show gU m.aa j=(lj m.aa j:Int)+(gI (m.ae.filter fun x=> !(x.Id==d.Id)) j:Nat)+_
  rw [e1,← e2]
  split<;>simp<;>omega
 ·intro j hj lN
  have e1:=(h.C2 j hj lN).1
  have e2:=hr j
  refine ⟨?_,fun hh=>hk (hh▸lN)⟩
  show gI (m.ae.filter fun x=> !(x.Id==d.Id)) j=0
  omega
 ·have e1:=h.rt.1
  have e2:=hr 1
  refine ⟨?_,h1⟩
  show gI (m.ae.filter fun x=> !(x.Id==d.Id)) 1=0
  omega
 ·intro x hx hx4
  obtain ⟨a,b⟩:=h.rd x (hs.subset hx) hx4
  refine ⟨a,?_⟩
  rcases b with b | b | ⟨f,hf,C6,Gn⟩
  ·exact .inl b
  ·exact .inr (.inl b)
  ·exact .inr (.inr ⟨f,dN.2 ⟨hf,fun hh=>by have:=p5 h.R.ids hf hd hh; subst this; omega⟩,C6,Gn⟩)
 ·intro x hx hx4 h0
  obtain ⟨y,hy,a,b,c⟩:=h.af x (hs.subset hx) hx4 h0
  exact ⟨y,dN.2 ⟨hy,fun hh=>by have:=p5 h.R.ids hy hd hh; subst this; omega⟩,a,b,c⟩
structure Df (f:bG->bG):Prop where
 same:∀ d,(f d).Id=d.Id/\(f d).Ino=d.Ino/\(f d).Ptr=d.Ptr/\(f d).Block=d.Block/\(f d).Slot=d.Slot/\(f d).Name=d.Name/\(f d).bx=d.bx/\(f d).ab=d.ab
 kind:∀ d,(f d).Kind=d.Kind\/(d.Kind=1/\(f d).Kind=6)\/(d.Kind=2/\(f d).Kind=3)
theorem Df.Pm {f:bG->bG} (h:Df f) (d:bG):((f d).Kind=4↔d.Kind=4)/\((f d).Kind=5↔d.Kind=5)/\(((f d).Kind=2\/(f d).Kind=3)↔(d.Kind=2\/d.Kind=3))/\(((f d).Kind=1\/(f d).Kind=6)↔(d.Kind=1\/d.Kind=6)):=by
 rcases h.kind d with h | h | h<;>(refine ⟨?_,?_,?_,?_⟩<;>constructor<;>intro<;>omega)
theorem fZ {d:bG}:jV d=true↔d.Kind=2\/d.Kind=3\/d.Kind=4:=by
 simp only [jV,Bool.or_eq_true,beq_iff_eq,or_assoc]
theorem Df.nm {f:bG->bG} (h:Df f) (d:bG):jV (f d)=true↔jV d=true:=by
 rw [fZ,fZ]
 rcases h.kind d with h | h | h<;>constructor<;>intro<;>omega
theorem fK.RN {f:bG->bG} (ht:Df f) (h:fK m):fK ⟨m.aa,m.an,m.ae.map f,m.Next⟩:=by
 refine ⟨h.d,h.dy,by simpa using h.dp,h.n1,h.n2,?_,?_,?_,?_⟩
 ·intro x hx
  obtain ⟨d,hd,rfl⟩:=List.mem_map.1 hx
  have h1:=h.num d hd
  obtain ⟨a1,a2,a3,a4,a5,a6,a7,a8⟩:=ht.same d
  simp only [bJ,zB,ak,a1,a2,a3,a4,a5,a7] at h1 ⊢
  have:=ht.kind d
  refine ⟨h1.1,by omega,h1.2.2⟩
 ·intro x hx
  obtain ⟨d,hd,rfl⟩:=List.mem_map.1 hx
  rw [(ht.same d).2.2.2.2.2.2.2]; exact h.bs d hd
 ·intro x hx
  obtain ⟨d,hd,rfl⟩:=List.mem_map.1 hx
  have h1:=h.yn d hd
  obtain ⟨a1,a2,a3,a4,a5,a6,a7,a8⟩:=ht.same d
  obtain ⟨k4,k5,k2,k1⟩:=ht.Pm d
  have e1:(((f d).Kind==1)||((f d).Kind==6))=((d.Kind==1)||(d.Kind==6)):=by rw [Bool.eq_iff_iff]; simpa using k1
  have e2:(((f d).Kind==2)||((f d).Kind==3))=((d.Kind==2)||(d.Kind==3)):=by rw [Bool.eq_iff_iff]; simpa using k2
  have e4:((f d).Kind==4)=(d.Kind==4):=by rw [Bool.eq_iff_iff]; simpa using k4
  simp only [cG,e1,e2,e4,a2,a3,a4,a5,a6] at h1 ⊢
  exact h1
 ·rw [List.pairwise_map]
  exact h.ids.imp fun {a b} tP=>by rw [(ht.same a).1,(ht.same b).1]; exact tP
theorem MG {f:bG->bG} (ht:Df f) (l:List bG) (j:Int):gI (l.map f) j=gI l j:=by
 simp only [gI,List.countP_map]
 apply List.countP_congr
 intro d _
 have:=(ht.Pm d).1
 simp [this,(ht.same d).2.1]
theorem Gd.RN {f:bG->bG} (ht:Df f) (h:Gd e X m):Gd e X ⟨m.aa,m.an,m.ae.map f,m.Next⟩:=by
 have hr:=MG ht m.ae
 refine ⟨h.R.RN ht,?_,h.g,?_,?_,?_,?_,?_,?_,?_,?_,?_⟩
 ·intro x hx
  obtain ⟨d,hd,rfl⟩:=List.mem_map.1 hx
  obtain ⟨a1,a2,a3,a4,a5,a6,a7,a8⟩:=ht.same d
  simp only [nH,a6,a8]; exact h.sz d hd
 ·intro x hx h5
  obtain ⟨d,hd,rfl⟩:=List.mem_map.1 hx
  obtain ⟨a1,a2,a3,a4,a5,a6,a7,a8⟩:=ht.same d
  rw [a2,a8]; exact h.fr d hd ((ht.Pm d).2.1.1 h5)
 ·rw [List.pairwise_map]
  exact h.EM.imp fun {a b} tP ha hb=>by
   rw [(ht.same a).2.1,(ht.same b).2.1,(ht.same a).2.2.2.2.2.2.2,(ht.same b).2.2.2.2.2.2.2]
   exact tP ((ht.Pm a).2.1.1 ha) ((ht.Pm b).2.1.1 hb)
 ·intro j; rw [hr]; exact h.lk j
 ·intro j; rw [hr]; exact h.C2 j
 ·rw [hr]; exact h.rt
 ·intro x hx h2
  obtain ⟨d,hd,rfl⟩:=List.mem_map.1 hx
  rw [(ht.same d).2.2.2.1]; exact h.nd d hd ((ht.Pm d).2.2.1.1 h2)
 ·intro x hx h4
  obtain ⟨d,hd,rfl⟩:=List.mem_map.1 hx
  rw [(ht.same d).2.2.2.1,(ht.same d).2.2.2.2.1]
  obtain ⟨a,b⟩:=h.rd d hd ((ht.Pm d).1.1 h4)
  refine ⟨a,?_⟩
  rcases b with b | b | ⟨f',hf,C6,Gn⟩
  ·exact .inl b
  ·exact .inr (.inl b)
  ·exact .inr (.inr ⟨f f',List.mem_map_of_mem hf,(ht.Pm f').2.1.2 C6,by rw [(ht.same f').2.2.2.2.2.2.2]; exact Gn⟩)
 ·rw [List.pairwise_map]
  exact h.us.imp fun {a b} tP ha hb=>by
   rw [(ht.same a).2.2.2.1,(ht.same b).2.2.2.1,(ht.same a).2.2.2.2.1,(ht.same b).2.2.2.2.1]
   exact tP ((ht.nm a).1 ha) ((ht.nm b).1 hb)
 ·intro x hx h4 h0
  obtain ⟨d,hd,rfl⟩:=List.mem_map.1 hx
  rw [(ht.same d).2.2.2.2.2.2.1] at h0 ⊢
  rw [(ht.same d).2.1]
  obtain ⟨y,hy,a,b,c⟩:=h.af d hd ((ht.Pm d).1.1 h4) h0
  exact ⟨f y,List.mem_map_of_mem hy,by rw [(ht.same y).1]; exact a,(ht.Pm y).2.2.1.2 b,by rw [(ht.same y).2.1]; exact c⟩
end Go.Soft
namespace Go.Soft
open Go
variable {e:Int} {X:List Int} {m:Mem} {d:aa}
theorem dD (h:d.ad.length=8) {i j:Int} (hi:I8 i) (hj:I8 j) (x:aV):aW (aQ d i x) j=if j=i then x.Kind else aW d j:=by
 simp only [aW,nQ h hi hj]; split<;>rfl
theorem gM (h:d.ad.length=8) {i j:Int} (hi:I8 i) (hj:I8 j) (x:aV):gU (aQ d i x) j=if j=i then x.Links else gU d j:=by
 simp only [gU,nQ h hi hj]; split<;>rfl
theorem fc (h:d.ad.length=8) {i j:Int} (hi:I8 i) (hj:I8 j) (x:aV) (k:Nat):aY (aQ d i x) j k=if j=i then x.ay.getD k 0 else aY d j k:=by
 simp only [aY,nQ h hi hj]; split<;>rfl
theorem cJ.gY (T:cJ d) {i:Int} {k:Nat} (hi:I8 i) (h:aY d i k≠0):lQ (aY d i k):=((T.ptr hi k).resolve_right h).2
theorem cJ.Dw (T:cJ d) {p:Int} {s:Nat} (hp:lQ p) (h:(cF d p s).Ino≠0):I8 (cF d p s).Ino:=by
 rcases T.wH hp s with h1 | h1
 ·rw [h1] at h; exact absurd rfl h
 ·exact h1.2.2.2
theorem cJ.TY (T:cJ d) {p:Int} (hp:lQ p) {x:Slot} (hx:x∈(aN d p).ah):∃ s,s<=3/\cF d p s=x:=by
 obtain ⟨s,hs,rfl⟩:=List.mem_iff_getElem.1 hx
 have h1:=T.nM hp.1 hp.2
 refine ⟨s,?_,fq _ _ hs⟩
 cases hd:(aN d p).cf with
 | false=>simp only [gw,hd,zF,zB,beq_iff_eq] at h1; omega
 | true=>have:=dm h1 hd; omega
theorem cJ.HU (T:cJ d) {j:Int} (hj:j≠0):lj d j=0↔∀ p s,lQ p->nq d p->(cF d p s).Ino≠j:=by
 rw [OE]
 constructor
 ·intro h p s hp ho he
  rcases T.wH hp s with h1 | h1
  ·rw [h1] at he; exact hj he.symm
  ·refine h p hp ((jP T.di (by obtain ⟨a,b⟩:=hp; omega)).2 ho) _ ?_ he
   refine aU _ ?_
   have:=dm (T.nM hp.1 hp.2) h1.2.1
   omega
 ·intro h p hp ho x hx
  obtain ⟨s,_,rfl⟩:=T.TY hp hx
  exact h p s hp ((jP T.di (by obtain ⟨a,b⟩:=hp; omega)).1 ho)
theorem BK (T:cJ d) {i:Int} (hi:I8 i) (p:Int):(nq (aQ d i (ba 0)) p->nq d p)/\(nq d p->nq (aQ d i (ba 0)) p\/∃ k,aW d i=2/\aY d i k=p):=by
 constructor
 ·rintro ⟨j,k,hj,h1,h2⟩
  rw [dD T.di hi hj] at h1; rw [fc T.di hi hj] at h2
  by_cases h:j=i
  ·rw [if_pos h] at h1; exact absurd h1 (by decide)
  ·rw [if_neg h] at h1 h2; exact ⟨j,k,hj,h1,h2⟩
 ·rintro ⟨j,k,hj,h1,h2⟩
  by_cases h:j=i
  ·subst h; exact .inr ⟨k,h1,h2⟩
  ·refine .inl ⟨j,k,hj,?_,?_⟩
   ·rw [dD T.di hi hj,if_neg h]; exact h1
   ·rw [fc T.di hi hj,if_neg h]; exact h2
theorem Hl (T:cJ d) {i j:Int} (hi:I8 i) (hj:I8 j) (k:Nat):aY (aQ d i (ba 0)) j k=if j=i then 0 else aY d j k:=by
 rw [fc T.di hi hj]
 split
 ·match k with
  | 0=>rfl
  | 1=>rfl
  | k+2=>rfl
 ·rfl
theorem HB (T:cJ d) {i:Int} (hi:I8 i) (he:∀ k s,aW d i=2->aY d i k≠0->(cF d (aY d i k) s).Ino=0) {j:Int} (hj:j≠0):lj (aQ d i (ba 0)) j=lj d j:=by
 refine oi fun p hp=> ?_
 have lX:p≠0:=by obtain ⟨a,b⟩:=hp; omega
 obtain ⟨h1,h2⟩:=BK T hi p
 have hl:(aQ d i (ba 0)).ad.length=8:=List.length_set.trans T.di
 simp only [kg]
 rw [show aN (aQ d i (ba 0)) p=aN d p from rfl]
 cases hb:rm d p with
 | false =>
  have:rm (aQ d i (ba 0)) p=false:=by
   rw [← Bool.not_eq_true,jP hl lX]; intro h; have:=(jP T.di lX).2 (h1 h); rw [hb] at this; cases this
  rw [this]
 | true =>
  rcases h2 ((jP T.di lX).1 hb) with h | ⟨k,hk,rfl⟩
  ·rw [(jP hl lX).2 h]
  ·cases rm (aQ d i (ba 0)) (aY d i k) with
   | true=>rfl
   | false =>
    simp only [zE,zF]
    refine (qS.2 fun x hx=> ?_).symm
    obtain ⟨s,_,rfl⟩:=T.TY hp hx
    rw [he k s hk lX]; exact hj.symm
theorem DG.dead (T:cJ d) (g:DG d) {i:Int} (hi:I8 i) (h1:i≠1) (hc:lj d i=0):DG (aQ d i (ba 0)):=by
 have Kb:i≠0:=by obtain ⟨a,b⟩:=hi; omega
 have he:∀ k s,aW d i=2->aY d i k≠0->(cF d (aY d i k) s).Ino=0:=fun k s hk=>g.ne i k s hi h1 hk hc
 have Dx:=fun {j}=>HB T hi he (j:=j)
 have hk:=fun {j} (hj:I8 j)=>dD T.di hi hj (ba 0)
 have hl:=fun {j} (hj:I8 j)=>gM T.di hi hj (ba 0)
 have hp:=fun {j} (hj:I8 j)=>Hl T hi hj
 have ho:=BK T hi
 have hs:∀ p s,cF (aQ d i (ba 0)) p s=cF d p s:=fun _ _=>rfl
 have c0:=(T.HU Kb).1 hc
 refine ⟨?_,?_,?_,?_,?_,?_,?_,?_,?_,?_⟩
 ·intro a k b l ha hb; rw [hp ha,hp hb]
  split
  ·intro _ h; exact absurd rfl h
  ·split
   ·intro h h'; exact absurd h h'
   ·exact g.one a k b l ha hb
 ·intro a k ha; rw [hp ha]; split
  ·intro h; exact absurd rfl h
  ·exact g.bm a k ha
 ·intro a ha; rw [hk ha]; split
  ·intro h; exact absurd rfl h
  ·exact g.NL a ha
 ·intro a k ha; rw [hp ha,hk ha]; split
  ·intro h; exact absurd rfl h
  ·exact g.pk a k ha
 ·intro p s hB hO h; rw [hs] at h ⊢
  have h2:=(ho p).1 hO
  rw [hk (T.Dw hB h),if_neg (c0 p s hB h2)]
  exact g.nm p s hB h2 h
 ·intro a k s ha WA pY Rn; rw [hk ha] at pY; rw [hp ha]
  by_cases h:a=i
  ·rw [if_pos h] at pY; exact absurd pY (by decide)
  ·rw [if_neg h] at pY ⊢; rw [Dx (by obtain ⟨x,y⟩:=ha; omega)] at Rn
   exact g.ne a k s ha WA pY Rn
 ·intro j hj lN; rw [hk hj] at lN; rw [hl hj]
  by_cases h:j=i
  ·rw [if_pos h] at lN; exact absurd lN (by decide)
  ·rw [if_neg h] at lN ⊢; exact g.dl j hj lN
 ·rw [hk ⟨by decide,by decide⟩,if_neg (Ne.symm h1)]; exact g.rt
 ·intro a k l s t ha pY; rw [hk ha] at pY; rw [hp ha,hp ha]
  by_cases h:a=i
  ·rw [if_pos h] at pY; exact absurd pY (by decide)
  ·rw [if_neg h] at pY; rw [if_neg h,if_neg h]; exact g.un a k l s t ha pY
 ·obtain ⟨r,r1,r2⟩:=g.rk
  refine ⟨r,r1,fun a k s ha pY=> ?_⟩
  rw [hk ha] at pY; rw [hp ha]
  by_cases h:a=i
  ·rw [if_pos h] at pY; exact absurd pY (by decide)
  ·rw [if_neg h] at pY; rw [if_neg h]
   intro h0 h3 h4
   rw [hs] at h3 h4 ⊢
   rw [hk (T.Dw (T.gY ha h0) h3),if_neg (c0 _ s (T.gY ha h0) ⟨a,k,ha,pY,rfl⟩)] at h4
   exact r2 a k s ha pY h0 h3 h4
theorem c9:dW m=true↔m.ae.length<40/\1<=m.Next/\m.Next<=99999:=by
 simp only [dW,zB,zD,ak]
theorem kM (h:dW m=true) (x:bG):b8 m x=(⟨m.aa,m.an,m.ae++[{ x with Id:=m.Next }],m.Next+1⟩,m.Next):=by
 simp only [b8,h,zE]
theorem Jx (hp:dW m=true) {i:Int} (hk:aW m.aa i≠0) (hl:0<gU m.aa i) :
  iI i m=if 1<gU m.aa i then ⟨aQ m.aa i ⟨aW m.aa i,gU m.aa i-1,(ai m.aa i).ay⟩,bS (aO i) m.an,m.ae,m.Next⟩ else
   ⟨aQ m.aa i (ba 0),bS (aO i) m.an,m.ae.filter (stays i)++[⟨m.Next,5,i,0,0,0,eS,false,false,0,(ai m.aa i).ay.filter fun p=>decide (0<p)⟩],m.Next+1⟩:=by
 obtain ⟨a1,a2,a3⟩:=c9.1 hp
 have hf:gG (ai m.aa i)=⟨aW m.aa i,gU m.aa i-1,(ai m.aa i).ay⟩:=by
  simp only [gG]; rw [decide_eq_true (show 0<(ai m.aa i).Links from hl)]; rfl
 have h1:(decide (40<=(m.ae.length:Int))|| !within m.Next 1 99999)=false:=by
  rw [ak.2 ⟨a2,a3⟩,decide_eq_false (by omega)]; rfl
 simp only [iI,h1,zF,hf]
 have h2:(aW m.aa i==0)=false:=by simpa using hk
 rw [h2,Bool.or_false]
 by_cases h:1<gU m.aa i
 ·rw [if_pos h,decide_eq_true (by omega)]; rfl
 ·rw [if_neg h,decide_eq_false (by omega)]
  simp only [zF]
  rw [kM]
  rw [c9]
  exact ⟨Nat.lt_of_le_of_lt (List.length_filter_le _ _) a1,a2,a3⟩
theorem Gd.iI {i:Int} (h:Gd i X m) (hi:I8 i) (hp:dW m=true):Gd 0 X (Soft.iI i m):=by
 have T:=h.R.d.t
 have Am:i≠1:=h.rt.2
 have hk:aW m.aa i≠0:=fun h0=>(h.C2 i hi h0).2 rfl
 have hl:=h.lk i hi Am hk
 rw [if_pos rfl] at hl
 have hR:=h.R.iI hi.1 hi.2
 have LG:=Jx hp hk (by omega)
 have Kb:¬ (0:Int)=i:=by obtain ⟨a,b⟩:=hi; omega
 by_cases hL:1<gU m.aa i
 ·rw [if_pos hL] at LG
  rw [LG] at hR ⊢
  have jf:∀ j,I8 j->aW (aQ m.aa i ⟨aW m.aa i,gU m.aa i-1,(ai m.aa i).ay⟩) j=aW m.aa j:=fun j hj=>by
   rw [dD T.di hi hj]; split
   ·next hh=>rw [hh]
   ·rfl
  have nC:∀ j k,I8 j->aY (aQ m.aa i ⟨aW m.aa i,gU m.aa i-1,(ai m.aa i).ay⟩) j k=aY m.aa j k:=fun j k hj=>by
   rw [fc T.di hi hj]; split
   ·next hh=>rw [hh]; rfl
   ·rfl
  have h8:(aQ m.aa i ⟨aW m.aa i,gU m.aa i-1,(ai m.aa i).ay⟩).ad.length=8:=List.length_set.trans T.di
  have hO:=oJ jf nC
  have hc:=oO T.di h8 jf nC rfl
  refine ⟨hR,h.sz,DG.same T h.g h8 rfl jf nC ?_ (fun a k ha h0=>h.g.bm a k ha h0) (fun a ha h0=>h.g.NL a ha h0),?_,h.EM,?_,?_,⟨h.rt.1,by decide⟩,?_,?_,h.us,h.af⟩
  ·intro j hj h2
   rw [gM T.di hi hj]
   split
   ·next hh=>subst hh; have:=h.g.dl j hj h2; omega
   ·rfl
  ·intro x hx h5
   obtain ⟨a1,a2,a3,a4⟩:=h.fr x hx h5
   refine ⟨(jf _ (dx (h.R.num x hx))).trans a1,a2,a3,fun p hp=>⟨(a4 p hp).1,fun j k hj=>by rw [nC j k hj]; exact (a4 p hp).2 j k hj⟩⟩
  ·intro j hj AI lN
   rw [jf j hj] at lN
   rw [hc,gM T.di hi hj,if_neg (show ¬ (0:Int)=j by obtain ⟨a,b⟩:=hj; omega)]
   have:=h.lk j hj AI lN
   by_cases hh:j=i
   ·rw [if_pos hh]; rw [if_pos hh.symm] at this; subst hh
    show gU m.aa j-1=(lj m.aa j:Int)+(gI m.ae j:Nat)+0
    omega
   ·rw [if_neg hh]; rw [if_neg (fun q=>hh q.symm)] at this; exact this
  ·intro j hj lN
   rw [jf j hj] at lN
   exact ⟨(h.C2 j hj lN).1,by obtain ⟨a,b⟩:=hj; omega⟩
  ·intro x hx h2; rw [hO]; exact h.nd x hx h2
  ·intro x hx h4
   obtain ⟨a,b⟩:=h.rd x hx h4
   exact ⟨a,b.imp_left (hO _).2⟩
 ·rw [if_neg hL] at LG
  rw [LG] at hR ⊢
  have hc:lj m.aa i=0:=by omega
  have hr:gI m.ae i=0:=by omega
  have acL:i≠0:=fun hh=>Kb hh.symm
  have c0:=(T.HU acL).1 hc
  have he:∀ k s,aW m.aa i=2->aY m.aa i k≠0->(cF m.aa (aY m.aa i k) s).Ino=0:=fun k s hk=>h.g.ne i k s hi Am hk hc
  have jf:=fun {j} (hj:I8 j)=>dD T.di hi hj (ba 0)
  have Wr:=fun {j} (hj:I8 j)=>gM T.di hi hj (ba 0)
  have nC:=fun {j} (hj:I8 j)=>Hl T hi hj
  have hO:=BK T hi
  have Dx:=fun {j}=>HB T hi he (j:=j)
  have hs:=List.filter_sublist (p:=stays i) (l:=m.ae)
  have qd:∀ x:bG,x.Kind≠1->x.Kind≠6->stays i x=true:=fun x h1 h6=>by
   simp only [stays]; rw [beq_eq_false_iff_ne.2 h1,beq_eq_false_iff_ne.2 h6]; rfl
  have wm:∀ j,gI (m.ae.filter (stays i)++[⟨m.Next,5,i,0,0,0,eS,false,false,0,(ai m.aa i).ay.filter fun p=>decide (0<p)⟩]) j=gI m.ae j:=fun j=>by
   have:=pR (l:=m.ae) (P:=stays i) (fun x hx h4=>qd x (by omega) (by omega)) j
   rw [← this]
   simp [gI,List.countP_append]
  have LJ:(ai m.aa i).ay.length=2:=T.sd hi.1 hi.2
  have hpm:∀ p,p∈(ai m.aa i).ay.filter (fun p=>decide (0<p))↔p≠0/\∃ k,aY m.aa i k=p:=fun p=>by
   rw [List.mem_filter,zD]
   constructor
   ·rintro ⟨a,b⟩; exact ⟨by omega,(m9 (by omega)).1 a⟩
   ·rintro ⟨a,k,hk⟩
    refine ⟨(m9 a).2 ⟨k,hk⟩,?_⟩
    rw [← hk] at a ⊢
    have:=T.gY hi a
    obtain ⟨b,c⟩:=this; omega
  have eP:∀ {x},x∈m.ae.filter (stays i)++[⟨m.Next,5,i,0,0,0,eS,false,false,0,(ai m.aa i).ay.filter fun p=>decide (0<p)⟩]->x∈m.ae\/x=⟨m.Next,5,i,0,0,0,eS,false,false,0,(ai m.aa i).ay.filter fun p=>decide (0<p)⟩:=fun {x} hx=>by
   rcases zH.1 hx with hx | hx
   ·exact .inl (hs.subset hx)
   ·exact .inr (zS.1 hx)
  have UI:∀ {x},x∈m.ae->x.Kind≠1->x.Kind≠6->x∈m.ae.filter (stays i)++[⟨m.Next,5,i,0,0,0,eS,false,false,0,(ai m.aa i).ay.filter fun p=>decide (0<p)⟩]:=fun {x} hx h1 h6 =>
   List.mem_append_left _ (List.mem_filter.2 ⟨hx,qd x h1 h6⟩)
  refine ⟨hR,?_,h.g.dead T hi Am hc,?_,?_,?_,?_,?_,?_,?_,?_,?_⟩
  ·intro x hx
   rcases eP hx with hx | rfl
   ·exact h.sz x hx
   ·exact ⟨by show eS.size<=cM; decide,by show List.length _<=cM; exact Nat.le_trans (List.length_filter_le _ _) (by rw [LJ]; decide)⟩
  ·intro x hx h5
   rcases eP hx with hx | rfl
   ·obtain ⟨a1,a2,a3,a4⟩:=h.fr x hx h5
    refine ⟨?_,a2,a3,fun p hp=>⟨(a4 p hp).1,fun j k hj=> ?_⟩⟩
    ·show aW (aQ m.aa i (ba 0)) x.Ino=0
     rw [jf (dx (h.R.num x hx))]; split
     ·rfl
     ·exact a1
    ·show aY (aQ m.aa i (ba 0)) j k≠p
     rw [nC hj]; split
     ·intro hh
      have:=ak.1 (List.all_eq_true.1 (h.R.bs x hx) p hp)
      omega
     ·exact (a4 p hp).2 j k hj
   ·refine ⟨?_,h.g.NL i hi hk,?_,fun p hp=> ?_⟩
    ·show aW (aQ m.aa i (ba 0)) i=0
     rw [jf hi,if_pos rfl]; rfl
    ·show ((ai m.aa i).ay.filter fun p=>decide (0<p)).Nodup
     have h1:=h.g.one i 0 i 1 hi hi
     simp only [aY] at h1
     match hP:(ai m.aa i).ay,LJ with
     | [a,b],_ =>
      rw [hP] at h1
      simp only [List.getD_cons_zero,List.getD_cons_succ] at h1
      simp only [List.filter_cons,List.filter_nil]
      by_cases ha:0<a<;>by_cases hb:0<b<;>simp [ha,hb]
      intro tP
      have:=(h1 tP (by omega)).2
      omega
    ·obtain ⟨h0,k,uZ⟩:=(hpm p).1 hp
     refine ⟨?_,fun j l hj=> ?_⟩
     ·have:=h.g.bm i k hi (by rw [uZ]; exact h0)
      rw [uZ] at this; exact this
     ·show aY (aQ m.aa i (ba 0)) j l≠p
      rw [nC hj]; split
      ·exact fun hh=>h0 hh.symm
      ·next Z0=>intro hh; exact Z0 (h.g.one j l i k hj hi (hh.trans uZ.symm) (by rw [hh]; exact h0)).1
  ·rw [List.pairwise_append]
   refine ⟨h.EM.sublist hs,List.pairwise_singleton _ _,?_⟩
   intro a ha b hb h5 _
   rw [zS] at hb; subst hb
   obtain ⟨a1,a2,a3,a4⟩:=h.fr a (hs.subset ha) h5
   refine ⟨fun hh=>hk (by rw [← show a.Ino=i from hh]; exact a1),fun p hp hq=> ?_⟩
   obtain ⟨h0,k,uZ⟩:=(hpm p).1 hq
   exact (a4 p hp).2 i k hi uZ
  ·intro j hj AI lN
   rw [jf hj] at lN
   by_cases hh:j=i
   ·rw [if_pos hh] at lN; exact absurd rfl lN
   ·rw [if_neg hh] at lN
    rw [wm,Dx (by obtain ⟨a,b⟩:=hj; omega),Wr hj,if_neg hh,if_neg (show ¬ (0:Int)=j by obtain ⟨a,b⟩:=hj; omega)]
    have:=h.lk j hj AI lN
    rw [if_neg (fun q=>hh q.symm)] at this; exact this
  ·intro j hj lN
   rw [wm]
   refine ⟨?_,by obtain ⟨a,b⟩:=hj; omega⟩
   rw [jf hj] at lN
   by_cases hh:j=i
   ·rw [hh]; exact hr
   ·rw [if_neg hh] at lN; exact (h.C2 j hj lN).1
  ·rw [wm]; exact ⟨h.rt.1,by decide⟩
  ·intro x hx h2
   rcases eP hx with hx | rfl
   ·rcases (hO x.Block).2 (h.nd x hx h2) with h3 | ⟨k,h3,h4⟩
    ·exact h3
    ·have Gb:=h.R.yn x hx
     have e2:((x.Kind==2)||(x.Kind==3))=true:=by simpa using h2
     have e1:((x.Kind==1)||(x.Kind==6))=false:=by rw [Bool.or_eq_false_iff]; constructor<;>(rw [beq_eq_false_iff_ne]; omega)
     simp only [cG,e1,e2,zE,zF,zB,zD,beq_iff_eq] at Gb
     have:=he k x.Slot.toNat h3 (by rw [h4]; omega)
     rw [h4] at this
     have h5:(cF m.aa x.Block x.Slot.toNat).Ino=x.Ino:=Gb.2
     have:=dx (h.R.num x hx)
     omega
   ·exact absurd h2 (by show ¬ ((5:Int)=2\/(5:Int)=3); omega)
  ·intro x hx h4
   rcases eP hx with hx | rfl
   ·obtain ⟨a,b⟩:=h.rd x hx h4
    refine ⟨a,?_⟩
    rcases b with b | b | ⟨f,hf,C6,Gn⟩
    ·rcases (hO x.Block).2 b with h3 | ⟨k,h3,h5⟩
     ·exact .inl h3
     ·refine .inr (.inr ⟨_,List.mem_append_right _ (zS.2 rfl),rfl,(hpm _).2 ⟨?_,k,h5⟩⟩)
      have Gb:=h.R.yn x hx
      simp only [cG,h4] at Gb
      simp at Gb; omega
    ·exact .inr (.inl b)
    ·exact .inr (.inr ⟨f,UI hf (by omega) (by omega),C6,Gn⟩)
   ·exact absurd h4 (by show ¬ (5:Int)=4; decide)
  ·rw [List.pairwise_append]
   refine ⟨h.us.sublist hs,List.pairwise_singleton _ _,?_⟩
   intro a ha b hb _ hn
   rw [zS] at hb; subst hb
   exact absurd hn (by show ¬ jV ⟨m.Next,5,i,0,0,0,eS,false,false,0,_⟩=true; rw [fZ]; simp)
  ·intro x hx h4 h0
   rcases eP hx with hx | rfl
   ·obtain ⟨y,hy,a,b,c⟩:=h.af x hx h4 h0
    exact ⟨y,UI hy (by omega) (by omega),a,b,c⟩
   ·exact absurd h4 (by show ¬ (5:Int)=4; decide)
theorem bo (id b:Int) (d:bG):(eZ id b d).Id=d.Id/\(eZ id b d).Kind=d.Kind/\(eZ id b d).Ino=d.Ino/\(eZ id b d).Ptr=d.Ptr/\(eZ id b d).Block=d.Block/\(eZ id b d).Slot=d.Slot/\(eZ id b d).Name=d.Name/\(eZ id b d).ab=d.ab:=by
 simp only [eZ]; cases (d.Kind==4)&&(d.bx==id)<;>simp
theorem HO (id b:Int) {d:bG} (h4:d.Kind=4):(eZ id b d).bx=if d.bx=id then b else d.bx:=by
 simp only [eZ,h4]
 by_cases h:d.bx=id
 ·simp [h]
 ·rw [if_neg h,beq_eq_false_iff_ne.2 h]; rfl
theorem fi {id b:Int} {x:bG}:x∈(shown id b m).ae↔∃ y∈m.ae,y.Id≠id/\eZ id b y=x:=by
 simp only [shown,List.mem_map]
 constructor
 ·rintro ⟨y,hy,rfl⟩; exact ⟨y,(dN.1 hy).1,(dN.1 hy).2,rfl⟩
 ·rintro ⟨y,hy,h,rfl⟩; exact ⟨y,dN.2 ⟨hy,h⟩,rfl⟩
theorem Jl {id b:Int} (pr:∀ y∈m.ae,y.Id=id->y.Kind≠4) (j:Int):gI (shown id b m).ae j=gI m.ae j:=by
 have:gI (shown id b m).ae j=gI (bd m id).ae j:=by
  simp only [shown,gI,List.countP_map]
  apply List.countP_congr
  intro y _
  obtain ⟨_,a2,a3,_⟩:=bo id b y
  simp [a2,a3]
 rw [this]
 exact pR (fun y hy h4=>by simpa using fun hh=>pr y hy hh h4) j
theorem fK.Vo (h:fK m) {id b:Int} (b0:0<=b) (b1:b<=m.Next-1):fK (shown id b m):=by
 refine ⟨h.d,(yL _ _ _ _).trans h.dy,?_,h.n1,h.n2,?_,?_,?_,?_⟩
 ·simp only [shown,List.length_map]; exact Nat.le_trans (List.length_filter_le _ _) h.dp
 ·intro x hx
  obtain ⟨y,hy,_,rfl⟩:=fi.1 hx
  have h1:=h.num y hy
  obtain ⟨a1,a2,a3,a4,a5,a6,a7,a8⟩:=bo id b y
  simp only [bJ,zB,ak,a1,a2,a3,a4,a5,a6] at h1 ⊢
  refine ⟨h1.1,h1.2.1,h1.2.2.1,h1.2.2.2.1,h1.2.2.2.2.1,h1.2.2.2.2.2.1,?_⟩
  show 0<=(eZ id b y).bx/\(eZ id b y).bx<=m.Next-1
  have:=h1.2.2.2.2.2.2
  simp only [eZ]
  cases (y.Kind==4)&&(y.bx==id)
  ·exact this
  ·exact ⟨b0,b1⟩
 ·intro x hx
  obtain ⟨y,hy,_,rfl⟩:=fi.1 hx
  rw [(bo id b y).2.2.2.2.2.2.2]; exact h.bs y hy
 ·intro x hx
  obtain ⟨y,hy,_,rfl⟩:=fi.1 hx
  obtain ⟨a1,a2,a3,a4,a5,a6,a7,a8⟩:=bo id b y
  have h1:=h.yn y hy
  simp only [cG,a2,a3,a4,a5,a6,a7] at h1 ⊢; exact h1
 ·simp only [shown,List.pairwise_map]
  exact (h.ids.sublist List.filter_sublist).imp fun {a b'} tP=>by rw [(bo _ _ a).1,(bo _ _ b').1]; exact tP
theorem Gd.shown (h:Gd e X m) {x0:bG} (Uo:x0∈m.ae) (Ru:x0.Kind=2\/x0.Kind=3) {b:Int} (hb:b=0\/∃ x∈m.ae,x.Id=b/\(x.Kind=2\/x.Kind=3)/\x.Ino=x0.Ino/\b≠x0.Id):Gd e X (Soft.shown x0.Id b m):=by
 have pr:∀ {y},y∈m.ae->y.Id=x0.Id->y=x0:=fun hy he=>p5 h.R.ids hy Uo he
 have Xd:0<=b/\b<=m.Next-1:=by
  rcases hb with rfl | ⟨x,hx,rfl,_⟩
  ·exact ⟨by decide,by have:=h.R.n1; omega⟩
  ·have:=h.R.num x hx
   simp only [bJ,zB,ak] at this
   exact ⟨by omega,this.1.2⟩
 have hr:=Jl (m:=m) (id:=x0.Id) (b:=b) fun y hy he=>by rw [pr hy he]; omega
 have hs:=List.filter_sublist (p:=fun x:bG=> !(x.Id==x0.Id)) (l:=m.ae)
 refine ⟨h.R.Vo Xd.1 Xd.2,?_,h.g,?_,?_,?_,?_,?_,?_,?_,?_,?_⟩
 ·intro x hx
  obtain ⟨y,hy,_,rfl⟩:=fi.1 hx
  obtain ⟨a1,a2,a3,a4,a5,a6,a7,a8⟩:=bo x0.Id b y
  simp only [nH,a7,a8]; exact h.sz y hy
 ·intro x hx h5
  obtain ⟨y,hy,_,rfl⟩:=fi.1 hx
  obtain ⟨a1,a2,a3,a4,a5,a6,a7,a8⟩:=bo x0.Id b y
  rw [a3,a8]; rw [a2] at h5; exact h.fr y hy h5
 ·simp only [Soft.shown,List.pairwise_map]
  exact (h.EM.sublist hs).imp fun {a c} tP ha hc=>by
   rw [(bo _ _ a).2.1] at ha; rw [(bo _ _ c).2.1] at hc
   rw [(bo _ _ a).2.2.1,(bo _ _ c).2.2.1,(bo _ _ a).2.2.2.2.2.2.2,(bo _ _ c).2.2.2.2.2.2.2]
   exact tP ha hc
 ·intro j; rw [hr]; exact h.lk j
 ·intro j; rw [hr]; exact h.C2 j
 ·rw [hr]; exact h.rt
 ·intro x hx h2
  obtain ⟨y,hy,_,rfl⟩:=fi.1 hx
  obtain ⟨a1,a2,a3,a4,a5,a6,a7,a8⟩:=bo x0.Id b y
  rw [a5]; rw [a2] at h2; exact h.nd y hy h2
 ·intro x hx h4
  obtain ⟨y,hy,_,rfl⟩:=fi.1 hx
  obtain ⟨a1,a2,a3,a4,a5,a6,a7,a8⟩:=bo x0.Id b y
  rw [a2] at h4; rw [a5,a6]
  obtain ⟨a,c⟩:=h.rd y hy h4
  refine ⟨a,?_⟩
  rcases c with c | c | ⟨f,hf,C6,Gn⟩
  ·exact .inl c
  ·exact .inr (.inl c)
  ·refine .inr (.inr ⟨eZ x0.Id b f,fi.2 ⟨f,hf,fun hh=>by rw [pr hf hh] at C6; rcases Ru with h | h<;>rw [h] at C6<;>exact absurd C6 (by decide),rfl⟩,?_,?_⟩)
   ·rw [(bo _ _ f).2.1]; exact C6
   ·rw [(bo _ _ f).2.2.2.2.2.2.2]; exact Gn
 ·simp only [Soft.shown,List.pairwise_map]
  exact (h.us.sublist hs).imp fun {a c} tP ha hc=>by
   have n1:jV (eZ x0.Id b a)=jV a:=by simp only [jV,(bo _ _ a).2.1]
   have n2:jV (eZ x0.Id b c)=jV c:=by simp only [jV,(bo _ _ c).2.1]
   rw [n1] at ha; rw [n2] at hc
   rw [(bo _ _ a).2.2.2.2.1,(bo _ _ c).2.2.2.2.1,(bo _ _ a).2.2.2.2.2.1,(bo _ _ c).2.2.2.2.2.1]
   exact tP ha hc
 ·intro x hx h4 h0
  obtain ⟨y,hy,_,rfl⟩:=fi.1 hx
  obtain ⟨a1,a2,a3,a4,a5,a6,a7,a8⟩:=bo x0.Id b y
  rw [a2] at h4
  rw [HO _ _ h4] at h0 ⊢
  rw [a3]
  by_cases hh:y.bx=x0.Id
  ·rw [if_pos hh] at h0 ⊢
   rcases hb with rfl | ⟨w,hw,Wh,hxk,Xb,cT⟩
   ·exact absurd rfl h0
   ·obtain ⟨z,hz,z1,z2,z3⟩:=h.af y hy h4 (by
     rw [hh]
     have:=h.R.num x0 Uo
     simp only [bJ,zB,ak] at this
     omega)
    have:z=x0:=pr hz (z1.trans hh)
    subst this
    refine ⟨eZ z.Id b w,fi.2 ⟨w,hw,by rw [Wh]; exact cT,rfl⟩,?_,?_,?_⟩
    ·rw [(bo _ _ w).1]; exact Wh
    ·rw [(bo _ _ w).2.1]; exact hxk
    ·rw [(bo _ _ w).2.2.1,Xb]; exact z3
  ·rw [if_neg hh] at h0 ⊢
   obtain ⟨z,hz,z1,z2,z3⟩:=h.af y hy h4 h0
   refine ⟨eZ x0.Id b z,fi.2 ⟨z,hz,fun hq=>hh (z1.symm.trans hq),rfl⟩,?_,?_,?_⟩
   ·rw [(bo _ _ z).1]; exact z1
   ·rw [(bo _ _ z).2.1]; exact z2
   ·rw [(bo _ _ z).2.2.1]; exact z3
theorem Gd.T' (h:Gd e X m):cJ m.aa:=h.R.d.t
theorem Gd.UY (h:Gd e X m) (hp:dW m=true) (he:e≠0) (hI:I8 e) {p s:Int} {nm:ByteArray} {b:Int} (p1:lQ p) (ho:nq m.aa p) (hd:(aN m.aa p).cf=true) (s0:0<=s) (s1:s<=3) (hs:cF m.aa p s.toNat=aq) (hn:bN nm=true)
  (hf:∀ x∈m.ae,jV x=true->x.Block=p->x.Slot≠s) (hb:b=0\/∃ x∈m.ae,x.Id=b/\(x.Kind=2\/x.Kind=3)/\x.Ino=e) :
  Gd 0 X (b8 m ⟨0,4,e,0,p,s,nm,false,false,b,[]⟩).1:=by
 obtain ⟨a1,a2,a3⟩:=c9.1 hp
 have Xd:0<=b/\b<=m.Next-1:=by
  rcases hb with rfl | ⟨x,hx,rfl,_⟩
  ·exact ⟨by decide,by omega⟩
  ·have:=h.R.num x hx
   simp only [bJ,zB,ak] at this
   exact ⟨by omega,this.1.2⟩
 obtain ⟨i1,i2⟩:=hI
 obtain ⟨p1',p2'⟩:=p1
 have hR:=h.R.put ⟨0,4,e,0,p,s,nm,false,false,b,[]⟩ (by
  simp only [bJ,zB,ak]
  refine ⟨⟨by omega,by omega⟩,⟨by decide,by decide⟩,⟨i1,i2⟩,⟨by decide,by decide⟩,⟨by omega,p2'⟩,⟨s0,s1⟩,Xd.1,by omega⟩) rfl (by
  simp only [cG]
  simp only [show ((4:Int)==1)=false from rfl,show ((4:Int)==6)=false from rfl,show ((4:Int)==2)=false from rfl,show ((4:Int)==3)=false from rfl,show ((4:Int)==4)=true from rfl,Bool.or_false,zF,zE,hd,hn,Bool.and_true,zD]
  omega)
 rw [kM hp] at hR ⊢
 have eP:∀ {x},x∈m.ae++[(⟨m.Next,4,e,0,p,s,nm,false,false,b,[]⟩:bG)]->x∈m.ae\/x=⟨m.Next,4,e,0,p,s,nm,false,false,b,[]⟩:=fun {x} hx=>by
  rcases zH.1 hx with hx | hx
  ·exact .inl hx
  ·exact .inr (zS.1 hx)
 have wm:∀ j,gI (m.ae++[(⟨m.Next,4,e,0,p,s,nm,false,false,b,[]⟩:bG)]) j=gI m.ae j+(if e=j then 1 else 0):=fun j=>by
  simp only [gI,List.countP_append,List.countP_singleton]
  by_cases hh:e=j
  ·simp [hh]
  ·rw [if_neg hh,beq_eq_false_iff_ne.2 hh]; simp
 refine ⟨hR,?_,h.g,?_,?_,?_,?_,?_,?_,?_,?_,?_⟩
 ·intro x hx
  rcases eP hx with hx | rfl
  ·exact h.sz x hx
  ·exact ⟨Nat.le_trans (eY hn).2 (by decide),by show ([]:List Int).length<=cM; decide⟩
 ·intro x hx h5
  rcases eP hx with hx | rfl
  ·exact h.fr x hx h5
  ·exact absurd h5 (by show ¬ (4:Int)=5; decide)
 ·rw [List.pairwise_append]
  refine ⟨h.EM,List.pairwise_singleton _ _,?_⟩
  intro a _ c hc _ h5
  rw [zS] at hc; subst hc
  exact absurd h5 (by show ¬ (4:Int)=5; decide)
 ·intro j hj AI lN
  rw [wm,if_neg (show ¬ (0:Int)=j by obtain ⟨a,b⟩:=hj; omega)]
  have:=h.lk j hj AI lN
  rw [this]; split<;>simp<;>omega
 ·intro j hj lN
  have:=h.C2 j hj lN
  rw [wm,if_neg this.2]
  exact ⟨this.1,by obtain ⟨a,b⟩:=hj; omega⟩
 ·have:=h.rt
  rw [wm,if_neg this.2]; exact ⟨this.1,by decide⟩
 ·intro x hx h2
  rcases eP hx with hx | rfl
  ·exact h.nd x hx h2
  ·exact ho
 ·intro x hx h4
  rcases eP hx with hx | rfl
  ·obtain ⟨a,c⟩:=h.rd x hx h4
   refine ⟨a,?_⟩
   rcases c with c | c | ⟨f,hf,C6,Gn⟩
   ·exact .inl c
   ·exact .inr (.inl c)
   ·exact .inr (.inr ⟨f,List.mem_append_left _ hf,C6,Gn⟩)
  ·exact ⟨hs,.inl ho⟩
 ·rw [List.pairwise_append]
  refine ⟨h.us,List.pairwise_singleton _ _,?_⟩
  intro a ha c hc h1 _ h3
  rw [zS] at hc; subst hc
  exact hf a ha h1 h3
 ·intro x hx h4 h0
  rcases eP hx with hx | rfl
  ·obtain ⟨y,hy,a,c⟩:=h.af x hx h4 h0
   exact ⟨y,List.mem_append_left _ hy,a,c⟩
  ·rcases hb with rfl | ⟨x,hx,c1,c2,c3⟩
   ·exact absurd rfl h0
   ·exact ⟨x,List.mem_append_left _ hx,c1,c2,c3⟩
theorem K9:eS.size=0:=rfl
theorem fT {s:ByteArray} (h:bN s=true):s≠eS:=fun hh=>by
 have:=(eY h).1
 rw [hh,K9] at this; omega
theorem pO {b:Block} (hd:b.cf=true):bA b=true↔b.ah.length=4/\b.Text=eS/\(∀ i,i<4->b.ah.getD i aq=aq\/(bN (b.ah.getD i aq).Name=true/\I8 (b.ah.getD i aq).Ino)) /\
  ∀ i k,k<i->i<4->b.ah.getD i aq≠aq->(b.ah.getD k aq).Name≠(b.ah.getD i aq).Name:=by
 have hz:∀ x:Slot,(x.Name==eS&&x.Ino==0)=true↔x=aq:=fun x=>by
  obtain ⟨n,i⟩:=x
  simp only [zB,beq_iff_eq,H8,Slot.mk.injEq]
 simp only [bA,hd,zE,zB,beq_iff_eq,yf]
 constructor
 ·rintro ⟨⟨h1,h2⟩,h3⟩
  refine ⟨h1,h2,fun i hi=> ?_,fun i k hk hi cT=> ?_⟩
  ·have:=mz h3 hi
   simp only [rY,Bool.or_eq_true] at this
   rcases this with h | h
   ·exact .inl ((hz _).1 h)
   ·simp only [zB,ak] at h; exact .inr h.1
  ·have:=mz h3 hi
   simp only [rY,Bool.or_eq_true] at this
   rcases this with h | h
   ·exact absurd ((hz _).1 h) cT
   ·rw [zB] at h
    have:=mz h.2 hk
    simpa using this
 ·rintro ⟨h1,h2,h3,h4⟩
  refine ⟨⟨h1,h2⟩,List.all_eq_true.2 fun i hi=> ?_⟩
  rw [List.mem_range'_1] at hi
  simp only [rY,Bool.or_eq_true]
  by_cases h:b.ah.getD i aq=aq
  ·exact .inl ((hz _).2 h)
  ·refine .inr ?_
   rw [zB]
   refine ⟨?_,List.all_eq_true.2 fun k hk=> ?_⟩
   ·simp only [zB,ak]; exact (h3 i (by omega)).resolve_left h
   ·rw [List.mem_range'_1] at hk
    simpa using h4 i k (by omega) (by omega) h
theorem nv {b:Block} (h:bA b=true) (hd:b.cf=true) {s:Nat} (hs:s<=3) {x:Slot} (hx:x=aq\/(bN x.Name=true/\I8 x.Ino)) (hu:x≠aq->∀ t,t≠s->(b.ah.getD t aq).Name≠x.Name):bA (ff b s x)=true:=by
 obtain ⟨h1,h2,h3,h4⟩:=(pO hd).1 h
 refine (pO (b:=ff b s x) hd).2 ⟨List.length_set.trans h1,h2,fun i hi=> ?_,fun i k hk hi cT=> ?_⟩
 ·simp only [ff,cK,h1]
  split
  ·exact hx
  ·exact h3 i hi
 ·simp only [ff,cK,h1] at cT ⊢
  by_cases sx:i=s
  ·subst sx
   rw [if_pos (c:=i=i/\i<4) ⟨rfl,by omega⟩] at cT ⊢
   rw [if_neg (c:=k=i/\i<4) (by omega)]
   exact hu cT k (by omega)
  ·rw [if_neg (c:=i=s/\s<4) (by omega)] at cT ⊢
   by_cases uZ:k=s
   ·rw [if_pos (c:=k=s/\s<4) ⟨uZ,by omega⟩]
    intro hh
    rcases hx with rfl | hx
    ·have:=(h3 i hi).resolve_left cT
     exact fT this.1 hh.symm
    ·exact hu (fun hz=>by rw [hz] at hx; exact fT hx.1 rfl) i sx hh.symm
   ·rw [if_neg (c:=k=s/\s<4) (by omega)]; exact h4 i k hk hi cT
def bM (d:aa) (p:Int) (s:Nat) (x:Slot):aa:=ch d p (ff (aN d p) s x)
theorem vF (T:cJ d) {p:Int} (hp:lQ p) (s:Nat) (x:Slot) {q:Int} (hq:lQ q):(aN (bM d p s x) q).cf=(aN d q).cf:=by
 simp only [bM,iA T.db hp hq]; split
 ·next h=>rw [h]; rfl
 ·rfl
theorem kS (T:cJ d) {p:Int} (hp:lQ p) (hd:(aN d p).cf=true) {s:Nat} (hs:s<=3) (x:Slot) {q:Int} (hq:lQ q) (t:Nat):cF (bM d p s x) q t=if q=p/\t=s then x else cF d q t:=by
 have h4:=dm (T.nM hp.1 hp.2) hd
 simp only [cF,bM,iA T.db hp hq]
 by_cases h:q=p
 ·subst h
  simp only [if_true,true_and,ff,cK,h4]
  by_cases ht:t=s
  ·rw [if_pos ⟨ht,by omega⟩,if_pos ht]
  ·rw [if_neg (by omega),if_neg ht]
 ·rw [if_neg h,if_neg (fun hh=>h hh.1)]
theorem qY (T:cJ d) {p:Int} (hp:lQ p) (ho:nq d p) (hd:(aN d p).cf=true) {s:Nat} (hs:s<=3) (x:Slot) (j:Int) :
  lj (bM d p s x) j+(if (cF d p s).Ino=j then 1 else 0)=lj d j+(if x.Ino=j then 1 else 0):=by
 have h4:=dm (T.nM hp.1 hp.2) hd
 have lX:p≠0:=by obtain ⟨a,b⟩:=hp; omega
 have h1:=Sv (d:=d) (d':=bM d p s x) (j:=j) hp fun q hq cT=>by
  simp only [kg,bM,iA T.db hp hq,if_neg cT]; rfl
 have NI:rm d p=true:=(jP T.di lX).2 ho
 have e1:kg d j p=wG (aN d p) j:=by simp only [kg,NI,zE]
 have e2:kg (bM d p s x) j p=wG (ff (aN d p) s x) j:=by
  have Zm:rm (bM d p s x) p=true:=NI
  simp only [kg,Zm,zE]
  simp only [bM,iA T.db hp hp,if_true]
 have h2:=Nf (b:=aN d p) (s:=s) (by omega) x j
 rw [e1,e2] at h1
 have h3:(cF d p s).Ino=((aN d p).ah.getD s aq).Ino:=rfl
 rw [h3]
 omega
theorem DG.clear (T:cJ d) (g:DG d) {p:Int} (hp:lQ p) (ho:nq d p) (hd:(aN d p).cf=true) {s:Nat} (hs:s<=3) (cT:∀ k t,aW d (cF d p s).Ino=2->aY d (cF d p s).Ino k≠0->(cF d (aY d (cF d p s).Ino k) t).Ino=0):DG (bM d p s aq):=by
 have qe:=fun {q} (hq:lQ q) t=>kS T hp hd hs aq hq t
 have hc:=qY T hp ho hd hs aq
 refine ⟨g.one,g.bm,g.NL,?_,?_,?_,g.dl,g.rt,?_,?_⟩
 ·intro i k hi h0
  show (aN (bM d p s aq) (aY d i k)).cf=true↔_
  rw [vF T hp s aq (T.gY hi h0)]; exact g.pk i k hi h0
 ·intro q t hq Xe; rw [qe hq]
  split
  ·intro h; exact absurd rfl h
  ·exact g.nm q t hq Xe
 ·intro i k t hi Am hk nL h0
  show (cF (bM d p s aq) (aY d i k) t).Ino=0
  rw [qe (T.gY hi h0)]
  split
  ·rfl
  ·have h1:=hc i
   have hd0:¬ aq.Ino=i:=by show ¬ (0:Int)=i; obtain ⟨a,b⟩:=hi; omega
   rw [nL,if_neg hd0] at h1
   by_cases hh:(cF d p s).Ino=i
   ·subst hh; exact cT k t hk h0
   ·rw [if_neg hh] at h1; exact g.ne i k t hi Am hk (by omega) h0
 ·intro i k l a b hi hk h0 h0'
  show (cF (bM d p s aq) (aY d i k) a).Ino≠0->(cF (bM d p s aq) (aY d i k) a).Name=(cF (bM d p s aq) (aY d i l) b).Name->_
  rw [qe (T.gY hi h0),qe (T.gY hi h0')]
  split
  ·intro h; exact absurd rfl h
  ·split
   ·intro h1 h2
    rcases T.wH (T.gY hi h0) a with h3 | h3
    ·rw [h3] at h1; exact absurd rfl h1
    ·exact absurd h2 (fT h3.2.2.1)
   ·exact g.un i k l a b hi hk h0 h0'
 ·obtain ⟨r,r1,r2⟩:=g.rk
  refine ⟨r,r1,fun i k t hi hk h0=> ?_⟩
  show (cF (bM d p s aq) (aY d i k) t).Ino≠0->aW d (cF (bM d p s aq) (aY d i k) t).Ino=2->r (cF (bM d p s aq) (aY d i k) t).Ino=_/\_
  rw [qe (T.gY hi h0)]
  split
  ·intro h; exact absurd rfl h
  ·exact r2 i k t hi hk h0
def RK (d:aa) (r:Int->Nat):Prop:=r 1=0/\∀ i k s,I8 i->aW d i=2->aY d i k≠0->(cF d (aY d i k) s).Ino≠0->aW d (cF d (aY d i k) s).Ino=2->r (cF d (aY d i k) s).Ino=r i+1/\r i<4
theorem DG.named (T:cJ d) (g:DG d) {p:Int} (hp:lQ p) (hd:(aN d p).cf=true) {w:Int} {kw:Nat} (hw:I8 w) (UC:aW d w=2) (Ir:aY d w kw=p) {s:Nat} (hs:s<=3) (h0:cF d p s=aq) {nm:ByteArray} {j:Int}
  (hn:bN nm=true) (hj:I8 j) (AI:j≠1) (lN:aW d j≠0) (hcw:w=1\/lj d w≠0) (hu:∀ l t,aY d w l≠0->(cF d (aY d w l) t).Name≠nm)
  (hr:aW d j=2->(∀ k,aY d j k=0)/\lj d j=0/\∀ r,RK d r->r w<4):DG (bM d p s ⟨nm,j⟩):=by
 have ho:nq d p:=⟨w,kw,hw,UC,Ir⟩
 have lX:p≠0:=by obtain ⟨a,b⟩:=hp; omega
 have Rw:j≠0:=by obtain ⟨a,b⟩:=hj; omega
 have qe:=fun {q} (hq:lQ q) t=>kS T hp hd hs ⟨nm,j⟩ hq t
 have hc:=qY T hp ho hd hs ⟨nm,j⟩
 have ib:∀ i k,I8 i->aY d i k=p->i=w/\k=kw:=fun i k hi hh=>g.one i k w kw hi hw (hh.trans Ir.symm) (by rw [hh]; exact lX)
 refine ⟨g.one,g.bm,g.NL,?_,?_,?_,g.dl,g.rt,?_,?_⟩
 ·intro i k hi h0
  show (aN (bM d p s ⟨nm,j⟩) (aY d i k)).cf=true↔_
  rw [vF T hp s _ (T.gY hi h0)]; exact g.pk i k hi h0
 ·intro q t hq Xe; rw [qe hq]
  split
  ·intro _; exact ⟨lN,AI⟩
  ·exact g.nm q t hq Xe
 ·intro i k t hi Am hk nL hz
  show (cF (bM d p s ⟨nm,j⟩) (aY d i k) t).Ino=0
  have h1:=hc i
  rw [nL,h0,if_neg (show ¬ aq.Ino=i by show ¬ (0:Int)=i; obtain ⟨a,b⟩:=hi; omega)] at h1
  rw [qe (T.gY hi hz)]
  split
  ·next hh =>
   have:=ib i k hi hh.1
   rcases hcw with h2 | h2
   ·exact absurd (this.1.trans h2) Am
   ·rw [this.1] at h1; omega
  ·exact g.ne i k t hi Am hk (by omega) hz
 ·intro i k l a b hi hk hz Gm
  show (cF (bM d p s ⟨nm,j⟩) (aY d i k) a).Ino≠0->(cF (bM d p s ⟨nm,j⟩) (aY d i k) a).Name=(cF (bM d p s ⟨nm,j⟩) (aY d i l) b).Name->_
  rw [qe (T.gY hi hz),qe (T.gY hi Gm)]
  split
  ·next h1 =>
   have e1:=ib i k hi h1.1
   split
   ·next h2=>intro _ _; have e2:=ib i l hi h2.1; exact ⟨e1.2.trans e2.2.symm,h1.2.trans h2.2.symm⟩
   ·intro _ h3; rw [e1.1] at h3 Gm; exact absurd h3.symm (hu l b Gm)
  ·split
   ·next h2 =>
    have e2:=ib i l hi h2.1
    intro _ h3; rw [e2.1] at h3 hz; exact absurd h3 (hu k a hz)
   ·exact g.un i k l a b hi hk hz Gm
 ·obtain ⟨r,r1,r2⟩:=g.rk
  by_cases h2:aW d j=2
  ·obtain ⟨q1,q2,q3⟩:=hr h2
   have q3:=q3 r ⟨r1,r2⟩
   have c0:=(T.HU Rw).1 q2
   have hwj:w≠j:=fun hh=>by rw [← hh] at q1; rw [q1] at Ir; exact lX Ir.symm
   refine ⟨fun i=>if i=j then r w+1 else r i,by show (if (1:Int)=j then r w+1 else r 1)=0; rw [if_neg (Ne.symm AI)]; exact r1,fun i k t hi hk hz=> ?_⟩
   have Uh:i≠j:=fun hh=>by subst hh; exact hz (q1 k)
   show (cF (bM d p s ⟨nm,j⟩) (aY d i k) t).Ino≠0->aW d (cF (bM d p s ⟨nm,j⟩) (aY d i k) t).Ino=2->(if (cF (bM d p s ⟨nm,j⟩) (aY d i k) t).Ino=j then r w+1 else r (cF (bM d p s ⟨nm,j⟩) (aY d i k) t).Ino)=(if i=j then r w+1 else r i)+1/\(if i=j then r w+1 else r i)<4
   rw [qe (T.gY hi hz),if_neg Uh]
   split
   ·next hh =>
    intro _ _
    have e1:=ib i k hi hh.1
    rw [if_pos rfl,e1.1]; exact ⟨rfl,q3⟩
   ·intro h3 h4
    rw [if_neg (c0 _ t (T.gY hi hz) ⟨i,k,hi,hk,rfl⟩)]
    exact r2 i k t hi hk hz h3 h4
  ·refine ⟨r,r1,fun i k t hi hk hz=> ?_⟩
   show (cF (bM d p s ⟨nm,j⟩) (aY d i k) t).Ino≠0->aW d (cF (bM d p s ⟨nm,j⟩) (aY d i k) t).Ino=2->r (cF (bM d p s ⟨nm,j⟩) (aY d i k) t).Ino=r i+1/\r i<4
   rw [qe (T.gY hi hz)]
   split
   ·intro _ h4; exact absurd h4 h2
   ·exact r2 i k t hi hk hz
theorem DG.vV (g:DG d) {p:Int} (ho:nq d p) (hp:p≠0):(aN d p).cf=true:=by
 obtain ⟨i,k,hi,h1,h2⟩:=ho
 have:=(g.pk i k hi (by rw [h2]; exact hp)).2 h1
 rw [h2] at this; exact this
theorem qo {x:bG} (h:cG m x=true) (hk:x.Kind=2\/x.Kind=3):0<x.Block/\(aN m.aa x.Block).cf=true/\(cF m.aa x.Block x.Slot.toNat).Ino=x.Ino:=by
 have e2:((x.Kind==2)||(x.Kind==3))=true:=by simpa using hk
 have e1:((x.Kind==1)||(x.Kind==6))=false:=by rw [Bool.or_eq_false_iff]; constructor<;>(rw [beq_eq_false_iff_ne]; omega)
 simp only [cG,e1,e2,zE,zF,zB,zD,beq_iff_eq] at h
 exact ⟨h.1.1,h.1.2,h.2⟩
theorem qy {x:bG} (h:cG m x=true) (hk:x.Kind=4):0<x.Block/\(aN m.aa x.Block).cf=true/\bN x.Name=true:=by
 simp only [cG,hk] at h
 simp at h
 exact ⟨h.1.1,h.1.2,h.2⟩
theorem eI {x:bG} (h:bJ m x=true):(1<=x.Id/\x.Id<=m.Next-1)/\(1<=x.Kind/\x.Kind<=6)/\I8 x.Ino/\(0<=x.Ptr/\x.Ptr<=1)/\(0<=x.Block/\x.Block<=16)/\(0<=x.Slot/\x.Slot<=3)/\(0<=x.bx/\x.bx<=m.Next-1):=by
 simp only [bJ,zB,ak] at h; exact h
theorem fK.bM (h:fK m) {p:Int} (hp:lQ p) (hd:(aN m.aa p).cf=true) {s:Int} (s0:0<=s) (s1:s<=3) {x:Slot} (hx:x=aq\/(bN x.Name=true/\I8 x.Ino)) (hu:x≠aq->∀ t,t≠s.toNat->(cF m.aa p t).Name≠x.Name)
  (hf:∀ y∈m.ae,jV y=true->y.Block=p->y.Slot≠s):fK ⟨Soft.bM m.aa p s.toNat x,m.an,m.ae,m.Next⟩:=by
 refine h.p8 hp.1 hp.2 (b:=ff (aN m.aa p) s.toNat x) (nv (h.d.nM hp.1 hp.2) hd (by omega) hx hu) ?_ fun _ _ _ _=>hd
 intro y hy hk hb
 have uZ:y.Kind=2\/y.Kind=3:=by simpa using hk
 have h1:=qo (h.yn y hy) uZ
 refine ⟨hd,?_⟩
 have h2:=hf y hy (by rw [fZ]; omega) hb
 have h3:=(eI (h.num y hy)).2.2.2.2.2.1
 simp only [ff,cK]
 rw [if_neg (by omega),← hb,beq_iff_eq]
 exact h1.2.2
theorem Gd.clear (h:Gd 0 X m) {p s:Int} (hp:lQ p) (ho:nq m.aa p) (s0:0<=s) (s1:s<=3) (hj:(cF m.aa p s.toNat).Ino≠0) (hf:∀ y∈m.ae,jV y=true->y.Block=p->y.Slot≠s)
  (cT:∀ k t,aW m.aa (cF m.aa p s.toNat).Ino=2->aY m.aa (cF m.aa p s.toNat).Ino k≠0->(cF m.aa (aY m.aa (cF m.aa p s.toNat).Ino k) t).Ino=0) :
  Gd (cF m.aa p s.toNat).Ino X ⟨bM m.aa p s.toNat aq,m.an,m.ae,m.Next⟩:=by
 have T:=h.T'
 have lX:p≠0:=by obtain ⟨a,b⟩:=hp; omega
 have hd:=h.g.vV ho lX
 have hJ:=T.Dw hp hj
 obtain ⟨hk,AI⟩:=h.g.nm p s.toNat hp ho hj
 have hc:=qY T hp ho hd (s:=s.toNat) (by omega) aq
 have qe:=fun {q} (hq:lQ q) t=>kS T hp hd (s:=s.toNat) (by omega) aq hq t
 have hR:=h.R.bM hp hd s0 s1 (x:=aq) (.inl rfl) (fun hz=>absurd rfl hz) hf
 have hg:=h.g.clear T hp ho hd (s:=s.toNat) (by omega) cT
 refine ⟨hR,h.sz,hg,h.fr,h.EM,?_,?_,⟨h.rt.1,AI⟩,h.nd,?_,h.us,h.af⟩
 ·intro j YR AI lN
  have h1:=h.lk j YR AI lN
  have h2:=hc j
  rw [if_neg (show ¬ (0:Int)=j by obtain ⟨a,b⟩:=YR; omega)] at h1
  rw [if_neg (show ¬ aq.Ino=j by show ¬ (0:Int)=j; obtain ⟨a,b⟩:=YR; omega),Nat.add_zero] at h2
  show gU m.aa j=(lj (bM m.aa p s.toNat aq) j:Int)+(gI m.ae j:Nat)+_
  rw [h1,show lj m.aa j=lj (bM m.aa p s.toNat aq) j+(if (cF m.aa p s.toNat).Ino=j then 1 else 0) from h2.symm]
  split<;>simp<;>omega
 ·intro j YR lN
  exact ⟨(h.C2 j YR lN).1,fun hh=>hk (hh▸lN)⟩
 ·intro x hx h4
  obtain ⟨a,b⟩:=h.rd x hx h4
  refine ⟨?_,b⟩
  have hb:=qy (h.R.yn x hx) h4
  have hn:=eI (h.R.num x hx)
  show cF (bM m.aa p s.toNat aq) x.Block x.Slot.toNat=aq
  rw [qe ⟨by omega,hn.2.2.2.2.1.2⟩]
  split
  ·rfl
  ·exact a
theorem Gd.named {j:Int} (h:Gd j X m) {p s w:Int} {kw:Nat} {nm:ByteArray} (hp:lQ p) (hw:I8 w) (UC:aW m.aa w=2) (Ir:aY m.aa w kw=p) (s0:0<=s) (s1:s<=3) (h0:cF m.aa p s.toNat=aq)
  (hn:bN nm=true) (hJ:I8 j) (hf:∀ y∈m.ae,jV y=true->y.Block=p->y.Slot≠s) (hcw:w=1\/lj m.aa w≠0) (hu:∀ l t,aY m.aa w l≠0->(cF m.aa (aY m.aa w l) t).Name≠nm)
  (hr:aW m.aa j=2->(∀ k,aY m.aa j k=0)/\lj m.aa j=0/\∀ r,RK m.aa r->r w<4):Gd 0 X ⟨bM m.aa p s.toNat ⟨nm,j⟩,m.an,m.ae,m.Next⟩:=by
 have T:=h.T'
 have lX:p≠0:=by obtain ⟨a,b⟩:=hp; omega
 have ho:nq m.aa p:=⟨w,kw,hw,UC,Ir⟩
 have hd:=h.g.vV ho lX
 have hk:aW m.aa j≠0:=fun hh=>(h.C2 j hJ hh).2 rfl
 have AI:=h.rt.2
 have Rw:j≠0:=by obtain ⟨a,b⟩:=hJ; omega
 have hc:=qY T hp ho hd (s:=s.toNat) (by omega) ⟨nm,j⟩
 have qe:=fun {q} (hq:lQ q) t=>kS T hp hd (s:=s.toNat) (by omega) ⟨nm,j⟩ hq t
 have hR:=h.R.bM hp hd s0 s1 (x:=⟨nm,j⟩) (.inr ⟨hn,hJ⟩) (fun _ t _=>by have:=hu kw t (by rw [Ir]; exact lX); rw [Ir] at this; exact this) hf
 have hg:=h.g.named T hp hd hw UC Ir (s:=s.toNat) (by omega) h0 hn hJ AI hk hcw hu hr
 refine ⟨hR,h.sz,hg,h.fr,h.EM,?_,?_,⟨h.rt.1,by decide⟩,h.nd,?_,h.us,h.af⟩
 ·intro a ha WA pY
  have h1:=h.lk a ha WA pY
  have h2:=hc a
  rw [h0,if_neg (show ¬ aq.Ino=a by show ¬ (0:Int)=a; obtain ⟨x,y⟩:=ha; omega),Nat.add_zero] at h2
  show gU m.aa a=(lj (bM m.aa p s.toNat ⟨nm,j⟩) a:Int)+(gI m.ae a:Nat)+_
  rw [h1,if_neg (show ¬ (0:Int)=a by obtain ⟨x,y⟩:=ha; omega),show lj (bM m.aa p s.toNat ⟨nm,j⟩) a=lj m.aa a+(if j=a then 1 else 0) from h2]
  split<;>simp<;>omega
 ·intro a ha pY
  exact ⟨(h.C2 a ha pY).1,by obtain ⟨x,y⟩:=ha; omega⟩
 ·intro x hx h4
  obtain ⟨a,b⟩:=h.rd x hx h4
  refine ⟨?_,b⟩
  have hb:=qy (h.R.yn x hx) h4
  have hn:=eI (h.R.num x hx)
  show cF (bM m.aa p s.toNat ⟨nm,j⟩) x.Block x.Slot.toNat=aq
  rw [qe ⟨by omega,hn.2.2.2.2.1.2⟩]
  split
  ·next hh=>exact absurd hh.2 (fun h2=>hf x hx (by rw [fZ]; omega) hh.1 (by omega))
  ·exact a
theorem nU {α β:Type} (P:α->Bool) (f:α->β) (z:β):∀ l:List α,(kG P f z l=z/\∀ x∈l,P x=false)\/∃ x∈l,P x=true/\kG P f z l=f x
 | []=> .inl ⟨rfl,fun x hx=>by cases hx⟩
 | x::l=>by
  simp only [kG]
  cases h:P x with
  | true=>exact .inr ⟨x,zO,h,rfl⟩
  | false =>
   rcases nU P f z l with ⟨h1,h2⟩ | ⟨y,hy,h1,h2⟩
   ·refine .inl ⟨h1,fun y hy=> ?_⟩
    rcases zI.1 hy with rfl | hy
    ·exact h
    ·exact h2 y hy
   ·exact .inr ⟨y,zJ _ hy,h1,h2⟩
theorem L9 (h:fK m) {x:bG} (hx:x∈m.ae):iw m x.Id=x.Kind:=by
 rcases nU (fun d=>d.Id==x.Id) (·.Kind) 0 m.ae with ⟨_,h2⟩ | ⟨y,hy,h1,h2⟩
 ·have:=h2 x hx; simp at this
 ·rw [iw,h2]
  rw [p5 h.ids hy hx (by simpa using h1)]
theorem vX (h:fK m) (p s:Int):(ga m p s=0/\∀ x∈m.ae,jV x=true->x.Block=p->x.Slot≠s)\/∃ x∈m.ae,jV x=true/\x.Block=p/\x.Slot=s/\ga m p s=x.Id/\iw m (ga m p s)=x.Kind:=by
 rcases nU (fun d=>(jV d&&(d.Block==p))&&(d.Slot==s)) (·.Id) 0 m.ae with ⟨h1,h2⟩ | ⟨y,hy,h1,h2⟩
 ·refine .inl ⟨h1,fun x hx hn hb hs=> ?_⟩
  have:=h2 x hx
  rw [hn,beq_iff_eq.2 hb,beq_iff_eq.2 hs] at this; cases this
 ·simp only [zB,beq_iff_eq] at h1
  refine .inr ⟨y,hy,h1.1.1,h1.1.2,h1.2,h2,?_⟩
  rw [ga,h2]; exact L9 h hy
theorem GH (h:fK m):iw m 0=0:=by
 rcases nU (fun d=>d.Id==0) (·.Kind) 0 m.ae with ⟨h1,_⟩ | ⟨y,hy,h1,h2⟩
 ·exact h1
 ·have:=(eI (h.num y hy)).1
  have h3:y.Id=0:=by simpa using h1
  omega
theorem Gd.eN (h:Gd 0 [] m) (hp:dW m=true) {p s b:Int} (hB:lQ p) (ho:nq m.aa p) (s0:0<=s) (s1:s<=3) (hj:(cF m.aa p s.toNat).Ino≠0)
  (cT:∀ k t,aW m.aa (cF m.aa p s.toNat).Ino=2->aY m.aa (cF m.aa p s.toNat).Ino k≠0->(cF m.aa (aY m.aa (cF m.aa p s.toNat).Ino k) t).Ino=0)
  (hb:b=0\/∃ x∈m.ae,x.Id=b/\(x.Kind=2\/x.Kind=3)/\x.Ino=(cF m.aa p s.toNat).Ino/\b≠ga m p s):Gd 0 [] (Soft.eN m p s b):=by
 have T:=h.T'
 have lX:p≠0:=by obtain ⟨a,b⟩:=hB; omega
 have hd:=h.g.vV ho lX
 have hJ:=T.Dw hB hj
 have Tm:=h.R.dy
 have qe:pZ m p s=cF m.aa p s.toNat:=rfl
 obtain ⟨m1,m2,m3⟩:=c9.1 hp
 simp only [Soft.eN,qe]
 rcases vX h.R p s with ⟨h1,h2⟩ | ⟨x,hx,hn,Wh,Ub,h1,h2⟩
 ·have hc:=h.clear hB ho s0 s1 hj h2 cT
  rw [h1,GH h.R]
  simp only [show ((0:Int)==2)=false from rfl,show ((0:Int)==3)=false from rfl,Bool.or_false,zF]
  have hg:=hc.bK (y:=bS (aG p) m.an) ((cR _ _).trans Tm)
  have NZ:bN (cF m.aa p s.toNat).Name=true:=by
   rcases T.wH hB s.toNat with h3 | h3
   ·rw [h3] at hj; exact absurd rfl hj
   ·exact h3.2.2.1
  refine hg.UY (c9.2 ⟨m1,m2,m3⟩) hj hJ hB ho ?_ s0 s1 ?_ NZ h2 ?_
  ·exact (vF T hB _ _ hB).trans hd
  ·show cF (bM m.aa p s.toNat aq) p s.toNat=aq
   rw [kS T hB hd (by omega) _ hB,if_pos ⟨rfl,rfl⟩]
  ·rcases hb with rfl | ⟨x,hx,a,b,c,_⟩
   ·exact .inl rfl
   ·exact .inr ⟨x,hx,a,b,c⟩
 ·have VZ:x.Kind=2\/x.Kind=3:=by
   rw [fZ] at hn
   rcases hn with h3 | h3 | h3
   ·exact .inl h3
   ·exact .inr h3
   ·have:=(h.rd x hx h3).1
    rw [Wh,Ub] at this; rw [this] at hj; exact absurd rfl hj
  have Xb:x.Ino=(cF m.aa p s.toNat).Ino:=by
   have:=(qo (h.R.yn x hx) VZ).2.2
   rw [Wh,Ub] at this; exact this.symm
  have e1:((iw m (ga m p s)==2)||(iw m (ga m p s)==3))=true:=by rw [h2]; simpa using VZ
  rw [e1,zE]
  have hS:=h.shown hx VZ (b:=b) (by
   rcases hb with rfl | ⟨y,hy,a,b,c,c2⟩
   ·exact .inl rfl
   ·exact .inr ⟨y,hy,a,b,by rw [Xb]; exact c,by rw [← h1]; exact c2⟩)
  have hf:∀ y∈(Soft.shown x.Id b m).ae,jV y=true->y.Block=p->y.Slot≠s:=by
   intro y hy YC Wl WE
   obtain ⟨z,hz,Uf,rfl⟩:=fi.1 hy
   obtain ⟨a1,a2,a3,a4,a5,a6,a7,a8⟩:=bo x.Id b z
   rw [a5] at Wl; rw [a6] at WE
   have hnz:jV z=true:=by simpa only [jV,a2] using YC
   have cT:x≠z:=fun hh=>Uf (by rw [hh])
   have:=h.us
   rw [List.pairwise_iff_getElem] at this
   obtain ⟨i1,Am,rfl⟩:=List.mem_iff_getElem.1 hx
   obtain ⟨i2,Wq,rfl⟩:=List.mem_iff_getElem.1 hz
   rcases Nat.lt_trichotomy i1 i2 with fW | heq | hgt
   ·exact this i1 i2 Am Wq fW hn hnz (Wh.trans Wl.symm) (Ub.trans WE.symm)
   ·subst heq; exact cT rfl
   ·exact this i2 i1 Wq Am hgt hnz hn (Wl.trans Wh.symm) (WE.trans Ub.symm)
  have hc:=hS.clear hB ho s0 s1 hj hf cT
  have hg:=hc.bK (y:=(Soft.shown x.Id b (Soft.nJ m p s)).an) ((yL _ _ _ _).trans ((cR _ _).trans Tm))
  have qd:(⟨bM m.aa p s.toNat aq,(Soft.shown x.Id b (Soft.nJ m p s)).an,(Soft.shown x.Id b m).ae,m.Next⟩:Mem)=Soft.shown (ga m p s) b (Soft.nJ m p s):=by rw [h1]; rfl
  have sB:Gd (cF m.aa p s.toNat).Ino [] (Soft.shown (ga m p s) b (Soft.nJ m p s)):=qd▸hg
  refine sB.iI hJ (c9.2 ⟨?_,m2,m3⟩)
  simp only [Soft.shown,List.length_map]
  exact Nat.lt_of_le_of_lt (List.length_filter_le _ _) m1
theorem Gd.bits (h:Gd e X m) {bb bi:List Bool} (h1:bb.length=16) (h2:bi.length=8) (hb:∀ p,lQ p->Cx m.aa p=true->bb.getD (p-1).toNat false=true) (hi:∀ i,I8 i->Dj m.aa i=true->bi.getD (i-1).toNat false=true) :
  Gd e X ⟨⟨⟨bb,bi⟩,m.aa.ad,m.aa.ab⟩,m.an,m.ae,m.Next⟩:=by
 have T:=h.T'
 have hg:DG ⟨⟨bb,bi⟩,m.aa.ad,m.aa.ab⟩:=DG.same T h.g T.di rfl (fun _ _=>rfl) (fun _ _ _=>rfl) (fun _ _ _=>rfl) (fun i k a b=>hb _ (T.gY a b) (h.g.bm i k a b)) (fun i a b=>hi i a (h.g.NL i a b))
 refine ⟨h.R.tR h1 h2,h.sz,hg,?_,h.EM,h.lk,h.C2,h.rt,h.nd,h.rd,h.us,h.af⟩
 intro x hx h5
 obtain ⟨a1,a2,a3,a4⟩:=h.fr x hx h5
 refine ⟨a1,hi _ (dx (h.R.num x hx)) a2,a3,fun p hp=>⟨hb p ?_ (a4 p hp).1,(a4 p hp).2⟩⟩
 have:=ak.1 (List.all_eq_true.1 (h.R.bs x hx) p hp)
 exact ⟨this.1,this.2⟩
theorem Gd.jl (h:Gd 0 X m) {i k:Int} (hi:I8 i) (hk:k=1\/k=2) (h0:aW m.aa i=0) (hb:Dj m.aa i=true) (hf:∀ x∈m.ae,x.Kind=5->x.Ino≠i) :
  Gd i X ⟨aQ m.aa i (ba k),m.an,m.ae,m.Next⟩:=by
 have T:=h.T'
 have Kb:i≠0:=by obtain ⟨a,b⟩:=hi; omega
 have Am:i≠1:=fun hh=>by have:=h.g.rt; rw [← hh,h0] at this; exact absurd this (by decide)
 have Ru:k≠0:=by omega
 have hN:ba k=⟨k,1,[0,0]⟩:=by rcases hk with rfl | rfl<;>rfl
 have hz:∀ kk,([0,0]:List Int).getD kk 0=0:=fun kk=>by
  match kk with
  | 0=>rfl
  | 1=>rfl
  | n+2=>rfl
 have hold:∀ kk,aY m.aa i kk=0:=fun kk=>by
  have h1:=T.sU hi.1 hi.2
  simp only [bp,zB,List.all_eq_true] at h1
  by_cases fW:kk<(ai m.aa i).ay.length
  ·have:=(h1.2.2.2.1 _ (aU 0 fW)).2
   have h2:(ai m.aa i).Kind=0:=h0
   rw [h2] at this
   have h3:((ai m.aa i).ay.getD kk 0==0)=true:=this
   exact beq_iff_eq.1 h3
  ·simp [aY,zT,List.getElem?_eq_none (Nat.le_of_not_lt fW)]
 have c0:∀ p s,lQ p->nq m.aa p->(cF m.aa p s).Ino≠i:=fun p s hp ho he=>by
  have:=(h.g.nm p s hp ho (by rw [he]; exact Kb)).1
  rw [he] at this; exact this h0
 have adQ:lj m.aa i=0:=(T.HU Kb).2 c0
 rw [hN]
 have jf:=fun {j} (hj:I8 j)=>dD T.di hi hj ⟨k,1,[0,0]⟩
 have Wr:=fun {j} (hj:I8 j)=>gM T.di hi hj ⟨k,1,[0,0]⟩
 have nC:∀ {j} (hj:I8 j) kk,aY (aQ m.aa i ⟨k,1,[0,0]⟩) j kk=aY m.aa j kk:=fun {j} hj kk=>by
  rw [fc T.di hi hj]; split
  ·next hh=>rw [hh,hold,hz]
  ·rfl
 have hO:∀ p,p≠0->(nq (aQ m.aa i ⟨k,1,[0,0]⟩) p↔nq m.aa p):=fun p hp=>by
  constructor
  ·rintro ⟨j,kk,hj,a,b⟩
   rw [nC hj] at b; rw [jf hj] at a
   by_cases hh:j=i
   ·subst hh; rw [hold] at b; exact absurd b.symm hp
   ·rw [if_neg hh] at a; exact ⟨j,kk,hj,a,b⟩
  ·rintro ⟨j,kk,hj,a,b⟩
   have hh:j≠i:=fun hh=>by subst hh; rw [hold] at b; exact hp b.symm
   exact ⟨j,kk,hj,by rw [jf hj,if_neg hh]; exact a,by rw [nC hj]; exact b⟩
 have h8:(aQ m.aa i ⟨k,1,[0,0]⟩).ad.length=8:=List.length_set.trans T.di
 have hc:∀ j,lj (aQ m.aa i ⟨k,1,[0,0]⟩) j=lj m.aa j:=fun j=>oi fun p hp=>by
  have lX:p≠0:=by obtain ⟨a,b⟩:=hp; omega
  simp only [kg]
  rw [x5 T.di h8 lX (hO p lX)]; rfl
 have hR:=h.R.nA hi.1 hi.2 (x:=⟨k,1,[0,0]⟩) (by rw [← hN]; exact zb hk) (fun x hx wq he=>by
  have Gb:=h.R.yn x hx
  have e1:((x.Kind==1)||(x.Kind==6))=true:=wq
  simp only [cG,e1,zE,zB,zD,beq_iff_eq,he] at Gb
  have h3:=hold x.Ptr.toNat
  simp only [aY] at h3
  omega)
 have hg:DG (aQ m.aa i ⟨k,1,[0,0]⟩):=by
  refine ⟨?_,?_,?_,?_,?_,?_,?_,?_,?_,?_⟩
  ·intro a x b y ha hb; rw [nC ha,nC hb]; exact h.g.one a x b y ha hb
  ·intro a x ha; rw [nC ha]; exact h.g.bm a x ha
  ·intro a ha; rw [jf ha]; split
   ·next hh=>intro _; rw [hh]; exact hb
   ·exact h.g.NL a ha
  ·intro a x ha; rw [nC ha,jf ha]; split
   ·next hh=>intro h1; rw [hh,hold] at h1; exact absurd rfl h1
   ·exact h.g.pk a x ha
  ·intro p s hB ho hz
   have lX:p≠0:=by obtain ⟨a,b⟩:=hB; omega
   rw [hO p lX] at ho
   have h1:=h.g.nm p s hB ho hz
   refine ⟨?_,h1.2⟩
   show aW (aQ m.aa i ⟨k,1,[0,0]⟩) (cF m.aa p s).Ino≠0
   rw [jf (T.Dw hB hz),if_neg (c0 p s hB ho)]; exact h1.1
  ·intro a x s ha WA pY Rn; rw [hc] at Rn; rw [nC ha]; rw [jf ha] at pY
   by_cases hh:a=i
   ·intro h1; rw [hh,hold] at h1; exact absurd rfl h1
   ·rw [if_neg hh] at pY; exact h.g.ne a x s ha WA pY Rn
  ·intro j hj lN; rw [Wr hj]; rw [jf hj] at lN
   by_cases hh:j=i
   ·rw [if_pos hh]
   ·rw [if_neg hh] at lN ⊢; exact h.g.dl j hj lN
  ·rw [jf ⟨by decide,by decide⟩,if_neg (Ne.symm Am)]; exact h.g.rt
  ·intro a x y s t ha pY; rw [nC ha,nC ha]; rw [jf ha] at pY
   by_cases hh:a=i
   ·intro h1; rw [hh,hold] at h1; exact absurd rfl h1
   ·rw [if_neg hh] at pY; exact h.g.un a x y s t ha pY
  ·obtain ⟨r,r1,r2⟩:=h.g.rk
   refine ⟨r,r1,fun a x s ha pY=> ?_⟩
   rw [nC ha]; rw [jf ha] at pY
   by_cases hh:a=i
   ·intro h1; rw [hh,hold] at h1; exact absurd rfl h1
   ·rw [if_neg hh] at pY
    intro h1 h2 h3
    have J8:(cF m.aa (aY m.aa a x) s).Ino≠0:=h2
    have Ly:aW (aQ m.aa i ⟨k,1,[0,0]⟩) (cF m.aa (aY m.aa a x) s).Ino=2:=h3
    rw [jf (T.Dw (T.gY ha h1) J8),if_neg (c0 _ s (T.gY ha h1) ⟨a,x,ha,pY,rfl⟩)] at Ly
    exact r2 a x s ha pY h1 J8 Ly
 have UX:∀ x∈m.ae,x.Kind=2\/x.Kind=3\/x.Kind=4->x.Block≠0:=fun x hx hk=>by
  rcases hk with h1 | h1 | h1
  ·have:=(qo (h.R.yn x hx) (.inl h1)).1; omega
  ·have:=(qo (h.R.yn x hx) (.inr h1)).1; omega
  ·have:=(qy (h.R.yn x hx) h1).1; omega
 refine ⟨hR,h.sz,hg,?_,h.EM,?_,?_,⟨h.rt.1,Am⟩,?_,?_,h.us,h.af⟩
 ·intro x hx h5
  obtain ⟨a1,a2,a3,a4⟩:=h.fr x hx h5
  refine ⟨?_,a2,a3,fun p hp=>⟨(a4 p hp).1,fun j l hj=> ?_⟩⟩
  ·show aW (aQ m.aa i ⟨k,1,[0,0]⟩) x.Ino=0
   rw [jf (dx (h.R.num x hx)),if_neg (hf x hx h5)]; exact a1
  ·show aY (aQ m.aa i ⟨k,1,[0,0]⟩) j l≠p
   rw [nC hj]; exact (a4 p hp).2 j l hj
 ·intro j hj AI lN
  have tJ:aW (aQ m.aa i ⟨k,1,[0,0]⟩) j≠0:=lN
  rw [jf hj] at tJ
  show gU (aQ m.aa i ⟨k,1,[0,0]⟩) j=(lj (aQ m.aa i ⟨k,1,[0,0]⟩) j:Int)+(gI m.ae j:Nat)+_
  rw [hc,Wr hj]
  by_cases hh:j=i
  ·rw [if_pos hh,if_pos hh.symm,hh,adQ,(h.C2 i hi h0).1]; rfl
  ·rw [if_neg hh] at tJ ⊢
   rw [if_neg (fun q=>hh q.symm)]
   have:=h.lk j hj AI tJ
   rw [if_neg (show ¬ (0:Int)=j by obtain ⟨a,b⟩:=hj; omega)] at this
   exact this
 ·intro j hj lN
  have tJ:aW (aQ m.aa i ⟨k,1,[0,0]⟩) j=0:=lN
  rw [jf hj] at tJ
  by_cases hh:j=i
  ·rw [if_pos hh] at tJ; exact absurd tJ Ru
  ·rw [if_neg hh] at tJ
   exact ⟨(h.C2 j hj tJ).1,fun q=>hh q.symm⟩
 ·intro x hx h2
  exact (hO _ (UX x hx (by omega))).2 (h.nd x hx h2)
 ·intro x hx h4
  obtain ⟨a,b⟩:=h.rd x hx h4
  exact ⟨a,b.imp_left (hO _ (UX x hx (by omega))).2⟩
theorem Gd.Ov (h:Gd 0 X m) {i:Int} (hi:I8 i) (hk:aW m.aa i=1) (hl:gU m.aa i<200):Gd i X ⟨aQ m.aa i ⟨(ai m.aa i).Kind,(ai m.aa i).Links+1,(ai m.aa i).ay⟩,m.an,m.ae,m.Next⟩:=by
 have T:=h.T'
 have Am:i≠1:=fun hh=>by have:=h.g.rt; rw [← hh,hk] at this; exact absurd this (by decide)
 have xV:=T.sU hi.1 hi.2
 generalize hx:(⟨(ai m.aa i).Kind,(ai m.aa i).Links+1,(ai m.aa i).ay⟩:aV)=x
 have hxk:x.Kind=aW m.aa i:=by rw [← hx]; rfl
 have Rj:x.Links=gU m.aa i+1:=by rw [← hx]; rfl
 have hxp:x.ay=(ai m.aa i).ay:=by rw [← hx]
 have jf:∀ j,I8 j->aW (aQ m.aa i x) j=aW m.aa j:=fun j hj=>by
  rw [dD T.di hi hj]; split
  ·next hh=>rw [hh,hxk]
  ·rfl
 have nC:∀ j k,I8 j->aY (aQ m.aa i x) j k=aY m.aa j k:=fun j k hj=>by
  rw [fc T.di hi hj]; split
  ·next hh=>rw [hh,hxp]; rfl
  ·rfl
 have h8:(aQ m.aa i x).ad.length=8:=List.length_set.trans T.di
 have hO:=oJ jf nC
 have hc:=oO T.di h8 jf nC rfl
 have hR:=h.R.nA hi.1 hi.2 (x:=x) (by
  simp only [bp,zB,ak] at xV ⊢
  have uZ:(ai m.aa i).Kind=1:=hk
  have xX:(ai m.aa i).Links<200:=hl
  rw [← hx]; simp only [uZ] at xV ⊢
  exact ⟨by decide,by omega,xV.2.2.1,xV.2.2.2.1,rfl⟩) (fun y hy wq he=>by
  have Gb:=h.R.yn y hy
  have e1:((y.Kind==1)||(y.Kind==6))=true:=wq
  simp only [cG,e1,zE,zB,zD,he] at Gb
  rw [hxp]; exact Gb.2)
 have hg:DG (aQ m.aa i x):=DG.same T h.g h8 rfl jf nC (fun j hj h2=>by
  rw [gM T.di hi hj]; split
  ·next hh=>rw [hh,hk] at h2; exact absurd h2 (by decide)
  ·rfl) (fun a k ha h0=>h.g.bm a k ha h0) (fun a ha h0=>h.g.NL a ha h0)
 refine ⟨hR,h.sz,hg,?_,h.EM,?_,?_,⟨h.rt.1,Am⟩,fun y hy h2=>(hO _).2 (h.nd y hy h2),?_,h.us,h.af⟩
 ·intro y hy h5
  obtain ⟨a1,a2,a3,a4⟩:=h.fr y hy h5
  exact ⟨(jf _ (dx (h.R.num y hy))).trans a1,a2,a3,fun p hp=>⟨(a4 p hp).1,fun j k hj=>by show aY (aQ m.aa i x) j k≠p; rw [nC j k hj]; exact (a4 p hp).2 j k hj⟩⟩
 ·intro j hj AI lN
  have tJ:aW (aQ m.aa i x) j≠0:=lN
  rw [jf j hj] at tJ
  show gU (aQ m.aa i x) j=(lj (aQ m.aa i x) j:Int)+(gI m.ae j:Nat)+_
  have:=h.lk j hj AI tJ
  rw [if_neg (show ¬ (0:Int)=j by obtain ⟨a,b⟩:=hj; omega)] at this
  rw [hc,gM T.di hi hj]
  by_cases hh:j=i
  ·rw [if_pos hh,if_pos hh.symm,Rj,← hh]; omega
  ·rw [if_neg hh,if_neg (fun q=>hh q.symm)]; exact this
 ·intro j hj lN
  have tJ:aW (aQ m.aa i x) j=0:=lN
  rw [jf j hj] at tJ
  exact ⟨(h.C2 j hj tJ).1,fun hh=>by rw [← hh,hk] at tJ; exact absurd tJ (by decide)⟩
 ·intro y hy h4
  obtain ⟨a,b⟩:=h.rd y hy h4
  exact ⟨a,b.imp_left (hO _).2⟩
def kA (m:Mem) (i:Int) (x:Nat) (r:Int) (b:Block):Mem :=
 ⟨aQ (ch m.aa r b) i (gR (ai m.aa i) x r),m.an,m.ae++[⟨m.Next,1,i,x,r,0,eS,false,false,0,[]⟩],m.Next+1⟩
theorem Gd.grow (h:Gd e X m) (hp:dW m=true) {i:Int} (hi:I8 i) (J4:aW m.aa i≠0) {x:Nat} (hx:x<=1) (h0:aY m.aa i x=0) {r:Int} (hr:lQ r) (hb:Cx m.aa r=true) (Ny:∀ j k,I8 j->aY m.aa j k≠r)
  (hfF:∀ f∈m.ae,f.Kind=5->r∉f.ab) (Qi:∀ y∈m.ae,jV y=true->y.Block≠r) {b:Block} (xV:bA b=true) (hbd:b.cf=true↔aW m.aa i=2) (Rq:∀ s,b.ah.getD s aq=aq):Gd e X (kA m i x r b):=by
 obtain ⟨m1,m2,m3⟩:=c9.1 hp
 have T:=h.T'
 have hr0:r≠0:=by obtain ⟨a,b⟩:=hr; omega
 have hlen:(ai m.aa i).ay.length=2:=T.sd hi.1 hi.2
 have hD:∀ {P:aa->Prop},(P (kA m i x r b).aa↔P (aQ (ch m.aa r b) i (gR (ai m.aa i) x r))):=Iff.rfl
 have UT:(ch m.aa r b).ad.length=8:=T.di
 have jf:∀ {j},I8 j->aW (kA m i x r b).aa j=aW m.aa j:=fun {j} hj=>by
  show aW (aQ (ch m.aa r b) i _) j=_
  rw [dD UT hi hj]; split
  ·next hh=>rw [hh]; rfl
  ·rfl
 have Wr:∀ {j},I8 j->gU (kA m i x r b).aa j=gU m.aa j:=fun {j} hj=>by
  show gU (aQ (ch m.aa r b) i _) j=_
  rw [gM UT hi hj]; split
  ·next hh=>rw [hh]; rfl
  ·rfl
 have nC:∀ {j} (hj:I8 j) k,aY (kA m i x r b).aa j k=if j=i/\k=x then r else aY m.aa j k:=fun {j} hj k=>by
  show aY (aQ (ch m.aa r b) i _) j k=_
  rw [fc UT hi hj]
  by_cases hh:j=i
  ·subst hh
   simp only [if_true,true_and,gR,cK,hlen]
   by_cases hk:k=x
   ·rw [if_pos ⟨hk,by omega⟩,if_pos hk]
   ·rw [if_neg (by omega),if_neg hk]; rfl
  ·rw [if_neg hh,if_neg (fun q=>hh q.1)]; rfl
 have Rp:∀ {q},lQ q->aN (kA m i x r b).aa q=if q=r then b else aN m.aa q:=fun {q} hq=>by
  show aN (ch m.aa r b) q=_
  exact iA T.db hr hq b
 have Dy:∀ {q} (hq:lQ q) s,cF (kA m i x r b).aa q s=if q=r then aq else cF m.aa q s:=fun {q} hq s=>by
  simp only [cF]; rw [Rp hq]; split
  ·exact Rq s
  ·rfl
 have hO:∀ {p},p≠0->(nq (kA m i x r b).aa p↔nq m.aa p\/(p=r/\aW m.aa i=2)):=fun {p} lX=>by
  constructor
  ·rintro ⟨j,k,hj,a,c⟩
   rw [jf hj] at a; rw [nC hj] at c
   by_cases hh:j=i/\k=x
   ·rw [if_pos hh] at c; rw [hh.1] at a; exact .inr ⟨c.symm,a⟩
   ·rw [if_neg hh] at c; exact .inl ⟨j,k,hj,a,c⟩
  ·rintro (⟨j,k,hj,a,c⟩ | ⟨rfl,a⟩)
   ·refine ⟨j,k,hj,by rw [jf hj]; exact a,?_⟩
    rw [nC hj,if_neg]
    ·exact c
    ·rintro ⟨rfl,rfl⟩; rw [h0] at c; exact lX c.symm
   ·exact ⟨i,x,hi,by rw [jf hi]; exact a,by rw [nC hi,if_pos ⟨rfl,rfl⟩]⟩
 have hnr:¬ nq m.aa r:=fun ⟨j,k,hj,_,c⟩=>Ny j k hj c
 have h8:(kA m i x r b).aa.ad.length=8:=List.length_set.trans UT
 have hc:∀ {j},j≠0->lj (kA m i x r b).aa j=lj m.aa j:=fun {j} Rw=>oi fun p hp=>by
  have lX:p≠0:=by obtain ⟨a,b⟩:=hp; omega
  simp only [kg]; rw [Rp hp]
  by_cases hh:p=r
  ·rw [if_pos hh]
   have e1:rm m.aa p=false:=by rw [← Bool.not_eq_true,jP T.di lX,hh]; exact hnr
   have e2:wG b j=0:=qS.2 fun s hs=>by
    obtain ⟨k,hk,rfl⟩:=List.mem_iff_getElem.1 hs
    have:=Rq k
    rw [fq _ _ hk] at this
    rw [this]; exact Rw.symm
   rw [e1,e2]; cases rm (kA m i x r b).aa p<;>rfl
  ·rw [if_neg hh]
   have:rm (kA m i x r b).aa p=rm m.aa p:=by
    rw [Bool.eq_iff_iff,jP h8 lX,jP T.di lX,hO lX]
    exact ⟨fun q=>q.resolve_right fun q=>hh q.1,.inl⟩
   rw [this]
 have hR:fK (kA m i x r b):=by
  have s1:=h.R.p8 hr.1 hr.2 xV (fun y hy hk Rz=>by
   exact absurd Rz (Qi y hy (fZ.2 (by have uZ:y.Kind=2\/y.Kind=3:=(by simpa using hk); omega)))) (fun y hy hk Rz=>absurd Rz (Qi y hy (fZ.2 (by have uZ:y.Kind=4:=(by simpa using hk); omega))))
  have s2:=s1.nA hi.1 hi.2 (x:=gR (ai m.aa i) x r) (pS (T.sU hi.1 hi.2) J4 x (by obtain ⟨a,b⟩:=hr; omega) hr.2) (fun y hy wq he=>by
   have Gb:=h.R.yn y hy
   have F9:=(eI (h.R.num y hy)).2.2.2.1
   have e1:((y.Kind==1)||(y.Kind==6))=true:=wq
   simp only [cG,e1,zE,zB,zD,beq_iff_eq,he] at Gb
   simp only [gR,cK,hlen]
   by_cases hh:y.Ptr.toNat=x
   ·rw [hh] at Gb
    have h2:(ai m.aa i).ay.getD x 0=0:=h0
    omega
   ·rw [if_neg (fun q=>hh q.1),beq_iff_eq]; exact Gb.2)
  have s3:=s2.put ⟨0,1,i,x,r,0,eS,false,false,0,[]⟩ (by
   simp only [bJ,zB,ak]
   obtain ⟨a,c⟩:=hi; obtain ⟨a',c'⟩:=hr
   exact ⟨⟨m2,by omega⟩,⟨by decide,by decide⟩,⟨a,c⟩,⟨by omega,by omega⟩,⟨by omega,c'⟩,⟨by decide,by decide⟩,by decide,by omega⟩) rfl (by
   have e2:ai (aQ (ch m.aa r b) i (gR (ai m.aa i) x r)) i=gR (ai m.aa i) x r:=by rw [nQ UT hi hi,if_pos rfl]
   have e3:(gR (ai m.aa i) x r).ay.getD x 0=r:=by simp only [gR,cK,hlen]; rw [if_pos ⟨trivial,by omega⟩]
   show (bif ((1:Int)==1)||((1:Int)==6) then decide (0<r)&&((ai (aQ (ch m.aa r b) i (gR (ai m.aa i) x r)) i).ay.getD (x:Int).toNat 0==r) else _)=true
   rw [e2,zC,e3]
   obtain ⟨a',c'⟩:=hr
   simp only [show ((1:Int)==1)=true from rfl,Bool.true_or,zE]
   rw [decide_eq_true (by omega),beq_self_eq_true (a:=r)]; rfl)
  have s4:fK (b8 ⟨aQ (ch m.aa r b) i (gR (ai m.aa i) x r),m.an,m.ae,m.Next⟩ ⟨0,1,i,x,r,0,eS,false,false,0,[]⟩).1:=s3
  rw [kM (m:=⟨aQ (ch m.aa r b) i (gR (ai m.aa i) x r),m.an,m.ae,m.Next⟩) (c9.2 ⟨m1,m2,m3⟩)] at s4
  exact s4
 have hg:DG (kA m i x r b).aa:=by
  refine ⟨?_,?_,?_,?_,?_,?_,?_,?_,?_,?_⟩
  ·intro a k c l ha lS; rw [nC ha,nC lS]
   split
   ·next q1 =>
     split
     ·next q2=>intro _ _; exact ⟨q1.1.trans q2.1.symm,q1.2.trans q2.2.symm⟩
     ·intro q _; exact absurd q.symm (Ny c l lS)
   ·split
    ·intro q _; exact absurd q (Ny a k ha)
    ·exact h.g.one a k c l ha lS
  ·intro a k ha; rw [nC ha]; split
   ·intro _; exact hb
   ·exact h.g.bm a k ha
  ·intro a ha; rw [jf ha]; exact h.g.NL a ha
  ·intro a k ha; rw [nC ha,jf ha]; split
   ·next q=>intro _; rw [Rp hr,if_pos rfl,q.1]; exact hbd
   ·intro q; rw [Rp (T.gY ha q),if_neg (Ny a k ha)]; exact h.g.pk a k ha q
  ·intro p s hB ho; rw [Dy hB]; split
   ·intro q; exact absurd rfl q
   ·next q =>
    have lX:p≠0:=by obtain ⟨a,b⟩:=hB; omega
    intro hz
    rw [jf (T.Dw hB hz)]
    exact h.g.nm p s hB (((hO lX).1 ho).resolve_right fun z=>q z.1) hz
  ·intro a k s ha WA pY Rn; rw [jf ha] at pY; rw [hc (by obtain ⟨a,b⟩:=ha; omega)] at Rn; rw [nC ha]; split
   ·intro _; rw [Dy hr,if_pos rfl]; rfl
   ·intro q; rw [Dy (T.gY ha q),if_neg (Ny a k ha)]; exact h.g.ne a k s ha WA pY Rn q
  ·intro j hj; rw [jf hj,Wr hj]; exact h.g.dl j hj
  ·rw [jf ⟨by decide,by decide⟩]; exact h.g.rt
  ·intro a k l s t ha pY; rw [jf ha] at pY; rw [nC ha,nC ha]
   split
   ·intro _ _; rw [Dy hr,if_pos rfl]; intro q; exact absurd rfl q
   ·split
    ·intro q _; rw [Dy hr,if_pos rfl,Dy (T.gY ha q),if_neg (Ny a k ha)]
     intro q1 q2
     rcases T.wH (T.gY ha q) s with z | z
     ·rw [z] at q1; exact absurd rfl q1
     ·exact absurd q2 (fT z.2.2.1)
    ·intro q q'; rw [Dy (T.gY ha q),if_neg (Ny a k ha),Dy (T.gY ha q'),if_neg (Ny a l ha)]
     exact h.g.un a k l s t ha pY q q'
  ·obtain ⟨rr,r1,r2⟩:=h.g.rk
   refine ⟨rr,r1,fun a k s ha pY=> ?_⟩
   rw [jf ha] at pY; rw [nC ha]; split
   ·intro _; rw [Dy hr,if_pos rfl]; intro q; exact absurd rfl q
   ·intro q; rw [Dy (T.gY ha q),if_neg (Ny a k ha)]
    intro hz; rw [jf (T.Dw (T.gY ha q) hz)]
    exact r2 a k s ha pY q hz
 have eP:∀ {y},y∈(kA m i x r b).ae->y∈m.ae\/y=⟨m.Next,1,i,x,r,0,eS,false,false,0,[]⟩:=fun {y} hy=>by
  rcases zH.1 hy with hy | hy
  ·exact .inl hy
  ·exact .inr (zS.1 hy)
 have wm:∀ j,gI (kA m i x r b).ae j=gI m.ae j:=fun j=>by
  show gI (m.ae++[_]) j=_
  simp [gI,List.countP_append]
 refine ⟨hR,?_,hg,?_,?_,?_,?_,?_,?_,?_,?_,?_⟩
 ·intro y hy
  rcases eP hy with hy | rfl
  ·exact h.sz y hy
  ·exact ⟨by show eS.size<=cM; decide,by show ([]:List Int).length<=cM; decide⟩
 ·intro y hy h5
  rcases eP hy with hy | rfl
  ·obtain ⟨a1,a2,a3,a4⟩:=h.fr y hy h5
   refine ⟨(jf (dx (h.R.num y hy))).trans a1,a2,a3,fun p hp=>⟨(a4 p hp).1,fun j l hj=> ?_⟩⟩
   rw [nC hj]; split
   ·intro q; exact hfF y hy h5 (q▸hp)
   ·exact (a4 p hp).2 j l hj
  ·exact absurd h5 (by show ¬ (1:Int)=5; decide)
 ·show (m.ae++[_]).Pairwise _
  rw [List.pairwise_append]
  refine ⟨h.EM,List.pairwise_singleton _ _,?_⟩
  intro a _ c hc _ h5
  rw [zS] at hc; subst hc
  exact absurd h5 (by show ¬ (1:Int)=5; decide)
 ·intro j hj AI; rw [jf hj,Wr hj,wm,hc (by obtain ⟨a,b⟩:=hj; omega)]; exact h.lk j hj AI
 ·intro j hj; rw [jf hj,wm]; exact h.C2 j hj
 ·rw [wm]; exact h.rt
 ·intro y hy h2
  rcases eP hy with hy | rfl
  ·have:=(qo (h.R.yn y hy) h2).1
   exact (hO (by omega)).2 (.inl (h.nd y hy h2))
  ·exact absurd h2 (by show ¬ ((1:Int)=2\/(1:Int)=3); omega)
 ·intro y hy h4
  rcases eP hy with hy | rfl
  ·obtain ⟨a,c⟩:=h.rd y hy h4
   have hb:=(qy (h.R.yn y hy) h4).1
   have hn:=(eI (h.R.num y hy)).2.2.2.2.1
   refine ⟨?_,?_⟩
   ·rw [Dy ⟨by omega,hn.2⟩,if_neg (Qi y hy (by rw [fZ]; omega))]; exact a
   ·rcases c with c | c | ⟨f,hf,C6,Gn⟩
    ·exact .inl ((hO (by omega)).2 (.inl c))
    ·exact .inr (.inl c)
    ·exact .inr (.inr ⟨f,List.mem_append_left _ hf,C6,Gn⟩)
  ·exact absurd h4 (by show ¬ (1:Int)=4; decide)
 ·show (m.ae++[_]).Pairwise _
  rw [List.pairwise_append]
  refine ⟨h.us,List.pairwise_singleton _ _,?_⟩
  intro a ha c hc _ hn
  rw [zS] at hc; subst hc
  exact absurd hn (by show ¬ jV ⟨m.Next,1,i,x,r,0,eS,false,false,0,_⟩=true; rw [fZ]; simp)
 ·intro y hy h4 hz
  rcases eP hy with hy | rfl
  ·obtain ⟨z,hz,a,c⟩:=h.af y hy h4 hz
   exact ⟨z,List.mem_append_left _ hz,a,c⟩
  ·exact absurd h4 (by show ¬ (1:Int)=4; decide)
theorem Gd.text (h:Gd e [] m) {w p:Int} {k:Nat} (hw:I8 w) (UC:aW m.aa w=1) (Ir:aY m.aa w k=p) (lX:p≠0) {s:ByteArray} (hs:s.size<=16):Gd e [] ⟨ch m.aa p ⟨false,[],s⟩,m.an,m.ae,m.Next⟩:=by
 have T:=h.T'
 have hp:lQ p:=by rw [← Ir]; exact T.gY hw (by rw [Ir]; exact lX)
 have CQ:¬ nq m.aa p:=fun ⟨j,l,hj,a,c⟩=>by
  have:=(h.g.one j l w k hj hw (c.trans Ir.symm) (by rw [c]; exact lX)).1
  rw [this,UC] at a; exact absurd a (by decide)
 have Im:(aN m.aa p).cf=false:=by
  have:=h.g.pk w k hw (by rw [Ir]; exact lX)
  rw [Ir,UC] at this
  cases hd:(aN m.aa p).cf with
  | false=>rfl
  | true=>exact absurd (this.1 hd) (by decide)
 have Rp:∀ {q},lQ q->aN (ch m.aa p ⟨false,[],s⟩) q=if q=p then ⟨false,[],s⟩ else aN m.aa q:=fun hq=>iA T.db hp hq _
 have Dy:∀ {q} (hq:lQ q) t,cF (ch m.aa p ⟨false,[],s⟩) q t=cF m.aa q t:=fun {q} hq t=>by
  simp only [cF]; rw [Rp hq]; split
  ·next hh =>
   subst hh
   rcases T.slot hq t with z | z
   ·exact z.symm
   ·rw [Im] at z; exact absurd z.2.1 (by decide)
  ·rfl
 have hc:∀ j,lj (ch m.aa p ⟨false,[],s⟩) j=lj m.aa j:=fun j=>oi fun q hq=>by
  have Xk:q≠0:=by obtain ⟨a,b⟩:=hq; omega
  have e1:rm (ch m.aa p ⟨false,[],s⟩) q=rm m.aa q:=rfl
  simp only [kg,e1]; rw [Rp hq]; split
  ·next hh =>
   subst hh
   have:rm m.aa q=false:=by rw [← Bool.not_eq_true,jP T.di Xk]; exact CQ
   rw [this]; rfl
  ·rfl
 have F9:∀ y∈m.ae,jV y=true->y.Block≠p:=fun y hy hn hb=>by
  rw [fZ] at hn
  rcases hn with z | z | z
  ·exact CQ (hb▸h.nd y hy (.inl z))
  ·exact CQ (hb▸h.nd y hy (.inr z))
  ·have:=(qy (h.R.yn y hy) z).2.1
   rw [hb,Im] at this; exact absurd this (by decide)
 have hR:=h.R.p8 hp.1 hp.2 (b:=⟨false,[],s⟩) (by simp only [bA,zF]; simp [hs]) (fun y hy hk Rz=>absurd Rz (F9 y hy (fZ.2 (by have uZ:y.Kind=2\/y.Kind=3:=(by simpa using hk); omega))))
  (fun y hy hk Rz=>absurd Rz (F9 y hy (fZ.2 (by have uZ:y.Kind=4:=(by simpa using hk); omega))))
 have hg:DG (ch m.aa p ⟨false,[],s⟩):=by
  refine ⟨h.g.one,h.g.bm,h.g.NL,?_,?_,?_,h.g.dl,h.g.rt,?_,?_⟩
  ·intro i l hi hz
   have Gm:aY m.aa i l≠0:=hz
   show (aN (ch m.aa p ⟨false,[],s⟩) (aY m.aa i l)).cf=true↔aW m.aa i=2
   rw [Rp (T.gY hi Gm)]; split
   ·next hh =>
    have:=(h.g.one i l w k hi hw (hh.trans Ir.symm) Gm).1
    rw [this,UC]; simp
   ·exact h.g.pk i l hi Gm
  ·intro q t hq ho; rw [Dy hq]; exact h.g.nm q t hq ho
  ·intro i l t hi Am hk nL hz; rw [hc] at nL
   have Gm:aY m.aa i l≠0:=hz
   show (cF (ch m.aa p ⟨false,[],s⟩) (aY m.aa i l) t).Ino=0
   rw [Dy (T.gY hi Gm)]; exact h.g.ne i l t hi Am hk nL Gm
  ·intro i l l' t t' hi hk hz Gm
   have q1:aY m.aa i l≠0:=hz
   have q2:aY m.aa i l'≠0:=Gm
   show (cF (ch m.aa p ⟨false,[],s⟩) (aY m.aa i l) t).Ino≠0->(cF (ch m.aa p ⟨false,[],s⟩) (aY m.aa i l) t).Name=(cF (ch m.aa p ⟨false,[],s⟩) (aY m.aa i l') t').Name->_
   rw [Dy (T.gY hi q1),Dy (T.gY hi q2)]; exact h.g.un i l l' t t' hi hk q1 q2
  ·obtain ⟨rr,r1,r2⟩:=h.g.rk
   refine ⟨rr,r1,fun i l t hi hk hz=> ?_⟩
   have q1:aY m.aa i l≠0:=hz
   show (cF (ch m.aa p ⟨false,[],s⟩) (aY m.aa i l) t).Ino≠0->aW m.aa (cF (ch m.aa p ⟨false,[],s⟩) (aY m.aa i l) t).Ino=2->rr (cF (ch m.aa p ⟨false,[],s⟩) (aY m.aa i l) t).Ino=rr i+1/\rr i<4
   rw [Dy (T.gY hi q1)]; exact r2 i l t hi hk q1
 refine ⟨hR,h.sz,hg,h.fr,h.EM,?_,h.C2,h.rt,h.nd,?_,h.us,h.af⟩
 ·intro j hj AI lN
  show gU m.aa j=(lj (ch m.aa p ⟨false,[],s⟩) j:Int)+(gI m.ae j:Nat)+_
  rw [hc]; exact h.lk j hj AI lN
 ·intro y hy h4
  obtain ⟨a,c⟩:=h.rd y hy h4
  have hb:=(qy (h.R.yn y hy) h4).1
  have hn:=(eI (h.R.num y hy)).2.2.2.2.1
  refine ⟨?_,c⟩
  show cF (ch m.aa p ⟨false,[],s⟩) y.Block y.Slot.toNat=aq
  rw [Dy ⟨by omega,hn.2⟩]; exact a
theorem Gd.VP (h:Gd e X m) (hp:dW m=true) {p s j:Int} (hB:lQ p) (ho:nq m.aa p) (s0:0<=s) (s1:s<=3) (hj:I8 j) (hs:(cF m.aa p s.toNat).Ino=j) (hf:∀ x∈m.ae,jV x=true->x.Block=p->x.Slot≠s) :
  Gd e X ⟨m.aa,m.an,m.ae++[⟨m.Next,2,j,0,p,s,eS,false,false,0,[]⟩],m.Next+1⟩:=by
 obtain ⟨m1,m2,m3⟩:=c9.1 hp
 obtain ⟨p1,p2⟩:=hB
 have hd:=h.g.vV ho (by omega)
 have hR:=h.R.put ⟨0,2,j,0,p,s,eS,false,false,0,[]⟩ (by
  simp only [bJ,zB,ak]
  exact ⟨⟨m2,by omega⟩,⟨by decide,by decide⟩,hj,⟨by decide,by decide⟩,⟨by omega,p2⟩,⟨s0,s1⟩,by decide,by omega⟩) rfl (by
  have CX:((aN m.aa p).ah.getD s.toNat aq).Ino=j:=hs
  simp only [cG,show ((2:Int)==1)=false from rfl,show ((2:Int)==6)=false from rfl,show ((2:Int)==2)=true from rfl,Bool.or_false,Bool.true_or,zF,zE,hd,CX,beq_self_eq_true,Bool.and_true,zD]
  omega)
 rw [kM hp] at hR
 have eP:∀ {y},y∈m.ae++[(⟨m.Next,2,j,0,p,s,eS,false,false,0,[]⟩:bG)]->y∈m.ae\/y=⟨m.Next,2,j,0,p,s,eS,false,false,0,[]⟩:=fun {y} hy=>by
  rcases zH.1 hy with hy | hy
  ·exact .inl hy
  ·exact .inr (zS.1 hy)
 have wm:∀ j',gI (m.ae++[(⟨m.Next,2,j,0,p,s,eS,false,false,0,[]⟩:bG)]) j'=gI m.ae j':=fun j'=>by
  simp [gI,List.countP_append]
 refine ⟨hR,?_,h.g,?_,?_,?_,?_,?_,?_,?_,?_,?_⟩
 ·intro y hy
  rcases eP hy with hy | rfl
  ·exact h.sz y hy
  ·exact ⟨by show eS.size<=cM; decide,by show ([]:List Int).length<=cM; decide⟩
 ·intro y hy h5
  rcases eP hy with hy | rfl
  ·exact h.fr y hy h5
  ·exact absurd h5 (by show ¬ (2:Int)=5; decide)
 ·rw [List.pairwise_append]
  refine ⟨h.EM,List.pairwise_singleton _ _,?_⟩
  intro a _ c hc _ h5
  rw [zS] at hc; subst hc
  exact absurd h5 (by show ¬ (2:Int)=5; decide)
 ·intro j'; rw [wm]; exact h.lk j'
 ·intro j'; rw [wm]; exact h.C2 j'
 ·rw [wm]; exact h.rt
 ·intro y hy h2
  rcases eP hy with hy | rfl
  ·exact h.nd y hy h2
  ·exact ho
 ·intro y hy h4
  rcases eP hy with hy | rfl
  ·obtain ⟨a,c⟩:=h.rd y hy h4
   refine ⟨a,?_⟩
   rcases c with c | c | ⟨f,hf,C6,Gn⟩
   ·exact .inl c
   ·exact .inr (.inl c)
   ·exact .inr (.inr ⟨f,List.mem_append_left _ hf,C6,Gn⟩)
  ·exact absurd h4 (by show ¬ (2:Int)=4; decide)
 ·rw [List.pairwise_append]
  refine ⟨h.us,List.pairwise_singleton _ _,?_⟩
  intro a ha c hc hn _ hb
  rw [zS] at hc; subst hc
  exact hf a ha hn hb
 ·intro y hy h4 hz
  rcases eP hy with hy | rfl
  ·obtain ⟨z,hz,a,c⟩:=h.af y hy h4 hz
   exact ⟨z,List.mem_append_left _ hz,a,c⟩
  ·exact absurd h4 (by show ¬ (2:Int)=4; decide)
structure TQ (m:Mem) (r:Int):Prop where
 b:lQ r
 p:∀ j k,I8 j->aY m.aa j k≠r
 f:∀ f∈m.ae,f.Kind=5->r∉f.ab
 n:∀ y∈m.ae,jV y=true->y.Block≠r
theorem Gd.fresh (h:Gd e [] m) {r:Int} (hr:lQ r) (hb:Cx m.aa r=false):TQ m r:=by
 have hr0:r≠0:=by obtain ⟨a,b⟩:=hr; omega
 have h1:∀ j k,I8 j->aY m.aa j k≠r:=fun j k hj hh=>by
  have:=h.g.bm j k hj (by rw [hh]; exact hr0)
  rw [hh,hb] at this; cases this
 have h2:∀ f∈m.ae,f.Kind=5->r∉f.ab:=fun f hf h5 hh=>by
  have:=((h.fr f hf h5).2.2.2 r hh).1
  rw [hb] at this; cases this
 have h3:¬ nq m.aa r:=fun ⟨j,k,hj,_,c⟩=>h1 j k hj c
 refine ⟨hr,h1,h2,fun y hy hn hh=> ?_⟩
 rw [fZ] at hn
 rcases hn with z | z | z
 ·exact h3 (hh▸h.nd y hy (.inl z))
 ·exact h3 (hh▸h.nd y hy (.inr z))
 ·rcases (h.rd y hy z).2 with c | c | ⟨f,hf,C6,c⟩
  ·exact h3 (hh▸c)
  ·cases c
  ·exact h2 f hf C6 (hh▸c)
theorem Gd.take (h:Gd e [] m) (hr:(aX m).2≠0):Gd e [] (aX m).1/\TQ (aX m).1 (aX m).2/\Cx (aX m).1.aa (aX m).2=true:=by
 have T:=h.T'
 revert hr
 simp only [aX]
 cases hz:firstFree m.aa.au.ab==0 with
 | true=>intro hr; exact absurd rfl hr
 | false =>
  intro _
  simp only [zF,qQ]
  rcases o9 m.aa.au.ab with ⟨h1,_⟩ | ⟨j,h1,h2,h3,_⟩
  ·rw [h1] at hz; cases hz
  ·have hb:=T.bb
   rw [hb] at h2
   have hj:((firstFree m.aa.au.ab)-1).toNat=j:=by omega
   have hB:lQ (firstFree m.aa.au.ab):=⟨by omega,by omega⟩
   have Io:Cx m.aa (firstFree m.aa.au.ab)=false:=by simp only [Cx,hj]; exact h3
   have hF:=h.fresh hB Io
   have hg:=h.bits (bb:=m.aa.au.ab.set (firstFree m.aa.au.ab-1).toNat true) (bi:=m.aa.au.bF) (List.length_set.trans hb) T.bi (fun p hp hh=>by
    rw [cK]; split
    ·rfl
    ·exact hh) (fun _ _ hh=>hh)
   refine ⟨hg.bK ((cR _ _).trans h.R.dy),⟨hF.b,hF.p,hF.f,hF.n⟩,?_⟩
   simp only [Cx,cK]
   rw [if_pos ⟨trivial,by omega⟩]
theorem sI (m:Mem):(aX m).1.ae=m.ae/\(aX m).1.Next=m.Next/\(aX m).1.aa.ad=m.aa.ad/\(aX m).1.aa.ab=m.aa.ab:=by
 simp only [aX]
 cases firstFree m.aa.au.ab==0<;>simp [qQ]
theorem yD {α S:Type} {P:S->Prop} {g:S->α->S}:∀ (l:List α) (a:S),P a->(∀ a,∀ x∈l,P a->P (g a x))->P (l.foldl g a)
 | [],a,h,_=>h
 | x::l,a,h,hs=>yD l _ (hs a x zO h) fun a y hy=>hs a y (zJ _ hy)
theorem M1 (m:Mem) (p:Int) (acc:Int×Int):lV m p acc=acc\/(lV m p acc).1=p:=by
 simp only [lV]
 cases within p 1 m.aa.ab.length&&(aN m.aa p).cf with
 | false=>exact .inl rfl
 | true =>
  simp only [zE]
  refine yD (P:=fun a=>a=acc\/a.1=p) _ _ (.inl rfl) fun a x _ ha=> ?_
  cases lD m p x with
  | true=>exact .inr rfl
  | false=>exact ha
theorem Md (m:Mem) (l:List Int):nG m l=(0,0)\/∃ k,k<l.length/\l.getD k 0=(nG m l).1:=by
 simp only [nG]
 refine yD (P:=fun a=>a=(0,0)\/∃ k,k<l.length/\l.getD k 0=a.1) _ _ (.inl rfl) fun a x hx ha=> ?_
 have Al:x<l.length:=by simp [List.mem_range'] at hx; omega
 rcases M1 m (l.getD x 0) a with h | h
 ·rw [h]; exact ha
 ·exact .inr ⟨x,Al,h.symm⟩
theorem JM {p:Int} {s:Nat}:lD m p s=true↔cF m.aa p s=aq/\ga m p s=0:=by
 simp only [lD,zB,beq_iff_eq,cF]
 generalize (aN m.aa p).ah.getD s aq=x
 obtain ⟨n,i⟩:=x
 simp only [H8,Slot.mk.injEq]
structure M5 (m:Mem) (w:Int) (nm:ByteArray) (j:Int):Prop where
 w8:I8 w
 kw:aW m.aa w=2
 nmk:bN nm=true
 j8:I8 j
 cw:w=1\/lj m.aa w≠0
 no:∀ l t,aY m.aa w l≠0->(cF m.aa (aY m.aa w l) t).Name≠nm
 dr:aW m.aa j=2->(∀ k,aY m.aa j k=0)/\lj m.aa j=0/\∀ r,RK m.aa r->r w<4
def ID (id j p s:Int):bG:=⟨id,2,j,0,p,s,eS,false,false,0,[]⟩
theorem Gd.set {j:Int} (h:Gd j X m) (hp:dW m=true) {w p s:Int} {nm:ByteArray} (hI:M5 m w nm j) {k:Nat} (WQ:aY m.aa w k=p) (hB:lQ p) (s0:0<=s) (s1:s<=3) (h0:cF m.aa p s.toNat=aq) (hf:∀ y∈m.ae,jV y=true->y.Block=p->y.Slot≠s) :
  Gd 0 X (setName m p s nm j).1/\(setName m p s nm j).2=m.Next/\(setName m p s nm j).1=⟨bM m.aa p s.toNat ⟨nm,j⟩,bS 0 (bS (aG p) m.an),m.ae++[ID m.Next j p s],m.Next+1⟩:=by
 have T:=h.T'
 have lX:p≠0:=by obtain ⟨a,b⟩:=hB; omega
 have ho:nq m.aa p:=⟨w,k,hI.w8,hI.kw,WQ⟩
 have hd:=h.g.vV ho lX
 have hg:=h.named hB hI.w8 hI.kw WQ s0 s1 h0 hI.nmk hI.j8 hf hI.cw hI.no hI.dr
 have YZ:=hg.bK (y:=bS 0 (bS (aG p) m.an)) ((cR _ _).trans ((cR _ _).trans h.R.dy))
 have hs:setName m p s nm j=(⟨bM m.aa p s.toNat ⟨nm,j⟩,bS 0 (bS (aG p) m.an),m.ae++[ID m.Next j p s],m.Next+1⟩,m.Next):=by
  have:=kM (m:=⟨bM m.aa p s.toNat ⟨nm,j⟩,bS 0 (bS (aG p) m.an),m.ae,m.Next⟩) hp ⟨0,2,j,0,p,s,eS,false,false,0,[]⟩
  exact this
 rw [hs]
 refine ⟨?_,rfl,rfl⟩
 refine YZ.VP hp hB ho s0 s1 hI.j8 ?_ hf
 show (cF (bM m.aa p s.toNat ⟨nm,j⟩) p s.toNat).Ino=j
 rw [kS T hB hd (by omega) _ hB,if_pos ⟨rfl,rfl⟩]
theorem Ft:∀ {l:List Int},bX l<l.length->l.getD (bX l) 0=0:=by
 intro l
 induction l with
 | nil=>intro h; cases h
 | cons a l ih =>
  simp only [bX,List.takeWhile_cons]
  cases ha:a==0 with
  | true=>intro _; simpa using ha
  | false =>
   simp only [zN,if_true,zR]
   intro h
   exact ih (by simp only [bX]; omega)
structure Put (m:Mem) (j:Int) (t:Mem×Int):Prop where
 g:Gd 0 [] t.1
 len:t.1.ae.length<=m.ae.length+2
 nx:t.1.Next<=m.Next+2
 dep:∃ p s,ID t.2 j p s∈t.1.ae/\0<=s/\(nq m.aa p->cF m.aa p s.toNat=aq)
 own:∀ p,p≠0->nq m.aa p->nq t.1.aa p
 same:∀ q u,lQ q->nq m.aa q->(cF m.aa q u).Ino≠0->cF t.1.aa q u=cF m.aa q u
 kind:∀ i,I8 i->aW t.1.aa i=aW m.aa i
theorem qC {j:Int} (h:Gd j [] m) (hl:m.ae.length<=38) (hn:m.Next<=99998) {w:Int} {nm:ByteArray} (hI:M5 m w nm j):(dR m w nm j).2=0\/Put m j (dR m w nm j):=by
 have T:=h.T'
 have vy:=h.R.n1
 have Ib:=hI.w8
 have ZH:1<=w/\w<=8:=Ib
 have hlen:(ai m.aa w).ay.length=2:=T.sd ZH.1 ZH.2
 simp only [dR]
 cases hz:(nG m (ai m.aa w).ay).1==0 with
 | false =>
  simp only [zF]
  have h1:=(Be m (ai m.aa w).ay).resolve_left (by intro q; rw [q] at hz; cases hz)
  obtain ⟨k,hk,WQ⟩:=(Md m (ai m.aa w).ay).resolve_left (by intro q; rw [q] at hz; cases hz)
  generalize (nG m (ai m.aa w).ay).1=p at *
  generalize (nG m (ai m.aa w).ay).2=s at *
  have hB:lQ p:=⟨h1.p1,by have:=h1.p2; rw [T.db] at this; exact this⟩
  have s0:=h1.s0
  have s1:=h1.s1
  rw [dm (T.nM hB.1 hB.2) h1.dir] at s1
  obtain ⟨f1,f2⟩:=JM.1 h1.free
  rw [Int.toNat_of_nonneg s0] at f2
  have hf:∀ y∈m.ae,jV y=true->y.Block=p->y.Slot≠s:=by
   rcases vX h.R p s with ⟨_,q⟩ | ⟨y,hy,_,_,_,q,_⟩
   ·exact q
   ·have:=(eI (h.R.num y hy)).1; omega
  have ho:nq m.aa p:=⟨w,k,Ib,hI.kw,WQ⟩
  obtain ⟨a,b,c⟩:=h.set (c9.2 ⟨by omega,vy,by omega⟩) hI WQ hB s0 (by omega) f1 hf
  refine .inr ⟨a,?_,?_,⟨p,s,?_,s0,fun _=>f1⟩,fun q _ hq=> ?_,fun q u hq Xe cT=> ?_,fun i hi=> ?_⟩
  ·rw [c]; show (m.ae++[_]).length<=_; rw [zK,zL]; omega
  ·rw [c]; show m.Next+1<=_; omega
  ·rw [c,b]; exact List.mem_append_right _ (zS.2 rfl)
  ·rw [c]; exact hq
  ·rw [c]
   show cF (bM m.aa p s.toNat ⟨nm,j⟩) q u=_
   rw [kS T hB h1.dir (by omega) _ hq,if_neg]
   rintro ⟨rfl,rfl⟩; rw [f1] at cT; exact cT rfl
  ·rw [c]; rfl
 | true =>
  simp only [zE]
  cases YL:bX (ai m.aa w).ay==(ai m.aa w).ay.length with
  | true=>exact .inl rfl
  | false =>
  simp only [zF]
  cases ht:(aX m).2==0 with
  | true=>exact .inl rfl
  | false =>
  simp only [zF]
  have hx:bX (ai m.aa w).ay<(ai m.aa w).ay.length:=by
   have:=rn (ai m.aa w).ay
   have h2:bX (ai m.aa w).ay≠(ai m.aa w).ay.length:=by simpa using YL
   omega
  have Uo:=Ft hx
  rw [hlen] at hx
  generalize bX (ai m.aa w).ay=x at *
  obtain ⟨g1,F,Io⟩:=h.take (by simpa using ht)
  obtain ⟨t1,t2,t3,t4⟩:=sI m
  generalize aX m=t at *
  have e1:∀ i,ai t.1.aa i=ai m.aa i:=fun i=>by simp only [ai,t3]
  have ek:∀ i,aW t.1.aa i=aW m.aa i:=fun i=>by simp only [aW,e1]
  have ep:∀ i k,aY t.1.aa i k=aY m.aa i k:=fun i k=>by simp only [aY,e1]
  have es:∀ q u,cF t.1.aa q u=cF m.aa q u:=fun q u=>by simp only [cF,aN,t4]
  have eo:∀ p,nq t.1.aa p↔nq m.aa p:=oJ (fun i _=>ek i) (fun i k _=>ep i k)
  have T1:=g1.T'
  have ec:∀ i,lj t.1.aa i=lj m.aa i:=oO T.di T1.di (fun i _=>ek i) (fun i k _=>ep i k) t4
  have Ak:=g1.grow (c9.2 ⟨by rw [t1]; omega,by rw [t2]; omega,by rw [t2]; omega⟩) (i:=w) Ib (by rw [ek,hI.kw]; decide) (x:=x) (by omega) (by rw [ep]; exact Uo) F.b Io F.p F.f F.n (b:=⟨true,List.replicate 4 aq,eS⟩) (by decide) (by rw [ek,hI.kw]; simp) (fun s=>by
   match s with
   | 0=>rfl
   | 1=>rfl
   | 2=>rfl
   | 3=>rfl
   | s+4=>rfl)
  have Ik:dw t.1 w x t.2=⟨(kA t.1 w x t.2 ⟨true,List.replicate 4 aq,eS⟩).aa,bS (aO w) (bS (aG t.2) t.1.an),(kA t.1 w x t.2 ⟨true,List.replicate 4 aq,eS⟩).ae,t.1.Next+1⟩:=by
   have:=kM (m:=⟨aQ (ch t.1.aa t.2 ⟨true,List.replicate 4 aq,eS⟩) w (gR (ai t.1.aa w) x t.2),bS (aO w) (bS (aG t.2) t.1.an),t.1.ae,t.1.Next⟩) (c9.2 ⟨by rw [t1]; omega,by rw [t2]; omega,by rw [t2]; omega⟩) ⟨0,1,w,x,t.2,0,eS,false,false,0,[]⟩
   simp only [dw]; rw [this]; rfl
  have YZ:=Ak.bK (y:=bS (aO w) (bS (aG t.2) t.1.an)) ((cR _ _).trans ((cR _ _).trans g1.R.dy))
  have TB:Gd j [] (dw t.1 w x t.2):=by rw [Ik]; exact YZ
  have UT:(ch t.1.aa t.2 ⟨true,List.replicate 4 aq,eS⟩).ad.length=8:=T1.di
  have gk:∀ i,I8 i->aW (dw t.1 w x t.2).aa i=aW m.aa i:=fun i hi=>by
   rw [Ik]
   show aW (aQ (ch t.1.aa t.2 _) w _) i=_
   rw [dD UT Ib hi]; split
   ·next q=>rw [q]; exact ek w
   ·exact ek i
  have gp:∀ i k,I8 i->aY (dw t.1 w x t.2).aa i k=if i=w/\k=x then t.2 else aY m.aa i k:=fun i k hi=>by
   rw [Ik]
   show aY (aQ (ch t.1.aa t.2 _) w _) i k=_
   rw [fc UT Ib hi]
   by_cases hh:i=w
   ·subst hh
    have Nv:(ai t.1.aa i).ay.length=2:=by rw [e1]; exact hlen
    simp only [if_true,true_and,gR,cK,Nv]
    by_cases hk:k=x
    ·rw [if_pos ⟨hk,by omega⟩,if_pos hk]
    ·rw [if_neg (by omega),if_neg hk]; exact ep i k
   ·rw [if_neg hh,if_neg (fun q=>hh q.1)]; exact ep i k
  have gs:∀ q u,lQ q->cF (dw t.1 w x t.2).aa q u=if q=t.2 then aq else cF m.aa q u:=fun q u hq=>by
   rw [Ik]
   show cF (ch t.1.aa t.2 ⟨true,List.replicate 4 aq,eS⟩) q u=_
   simp only [cF,iA T1.db F.b hq]
   split
   ·match u with
    | 0=>rfl
    | 1=>rfl
    | 2=>rfl
    | 3=>rfl
    | u+4=>rfl
   ·exact es q u
  have hnO:¬ nq m.aa t.2:=fun ⟨a,k,ha,_,hc⟩=>F.p a k ha (by rw [ep]; exact hc)
  have go:∀ p,p≠0->nq m.aa p->nq (dw t.1 w x t.2).aa p:=fun p lX ⟨a,k,ha,hb,hc⟩=>by
   refine ⟨a,k,ha,by rw [gk a ha]; exact hb,?_⟩
   rw [gp a k ha,if_neg]
   ·exact hc
   ·rintro ⟨rfl,rfl⟩
    have:aY m.aa a k=0:=Uo
    rw [this] at hc; exact lX hc.symm
  have gc:∀ i,i≠0->(lj (dw t.1 w x t.2).aa i=0↔lj m.aa i=0):=fun i Kb=>by
   rw [TB.T'.HU Kb,T.HU Kb]
   constructor
   ·intro q p s hp ho
    have:=q p s hp (go p (by obtain ⟨a,b⟩:=hp; omega) ho)
    rw [gs p s hp,if_neg (show ¬ p=t.2 from fun z=>hnO (z▸ho))] at this; exact this
   ·rintro q p s hp ⟨a,k,ha,hb,hc⟩
    rw [gs p s hp]; split
    ·exact Kb.symm
    ·next cT =>
     rw [gk a ha] at hb; rw [gp a k ha] at hc
     split at hc
     ·exact absurd hc.symm cT
     ·exact q p s hp ⟨a,k,ha,hb,hc⟩
  have Uu:M5 (dw t.1 w x t.2) w nm j:=by
   refine ⟨Ib,by rw [gk w Ib]; exact hI.kw,hI.nmk,hI.j8,?_,?_,?_⟩
   ·rcases hI.cw with q | q
    ·exact .inl q
    ·exact .inr fun z=>q ((gc w (by omega)).1 z)
   ·intro l u; rw [gp w l Ib]; split
    ·intro _; rw [gs _ _ F.b,if_pos rfl]; exact fun q=>fT hI.nmk q.symm
    ·intro q
     rw [gs _ _ (T.gY Ib q),if_neg (fun z=>F.p w l Ib (by rw [ep]; exact z))]; exact hI.no l u q
   ·intro q; rw [gk j hI.j8] at q
    obtain ⟨q1,q2,q3⟩:=hI.dr q
    have hjw:j≠w\/j=w:=(Decidable.em _).symm
    have adb:j≠w:=fun z=>by
     subst z
     have nL:=hI.cw
     rcases nL with z | z
     ·exact h.rt.2 z
     ·exact z q2
    refine ⟨fun k=>by rw [gp j k hI.j8,if_neg (fun z=>adb z.1)]; exact q1 k,(gc j (by have:=hI.j8; obtain ⟨a,b⟩:=this; omega)).2 q2,fun r hr=>q3 r ⟨hr.1,fun a k s ha hb hc hd he=> ?_⟩⟩
    have:=hr.2 a k s ha (by rw [gk a ha]; exact hb)
    have cT:¬ (a=w/\k=x):=by rintro ⟨rfl,rfl⟩; exact hc Uo
    rw [gp a k ha,if_neg cT,gs _ _ (T.gY ha hc),if_neg (fun z=>F.p a k ha (by rw [ep]; exact z))] at this
    exact this hc hd (by rw [gk _ (T.Dw (T.gY ha hc) hd)]; exact he)
  have gn:(dw t.1 w x t.2).Next=m.Next+1:=by rw [Ik]; show t.1.Next+1=_; rw [t2]
  have gl:(dw t.1 w x t.2).ae.length=m.ae.length+1:=by rw [Ik]; show (t.1.ae++[_]).length=_; rw [zK,zL,t1]
  have hf:∀ y∈(dw t.1 w x t.2).ae,jV y=true->y.Block=t.2->y.Slot≠0:=by
   intro y hy YC Wl
   rw [Ik] at hy
   rcases zH.1 hy with hy | hy
   ·exact absurd Wl (F.n y hy YC)
   ·rw [zS] at hy; subst hy
    rw [fZ] at YC
    have:((1:Int)=2\/(1:Int)=3\/(1:Int)=4):=YC
    omega
  obtain ⟨a,b,c⟩:=TB.set (c9.2 ⟨by rw [gl]; omega,by rw [gn]; omega,by rw [gn]; omega⟩) Uu (k:=x) (p:=t.2) (s:=0) (by rw [gp w x Ib,if_pos ⟨rfl,rfl⟩]) F.b (by decide) (by decide) (by rw [gs _ _ F.b,if_pos rfl]) hf
  have Im:(aN (dw t.1 w x t.2).aa t.2).cf=true:=TB.g.vV ⟨w,x,Ib,by rw [gk w Ib]; exact hI.kw,by rw [gp w x Ib,if_pos ⟨rfl,rfl⟩]⟩ (by have:=F.b; obtain ⟨a,b⟩:=this; omega)
  refine .inr ⟨a,?_,?_,⟨t.2,0,?_,by decide,fun q=>absurd q hnO⟩,fun q Xk hq=> ?_,fun q u hq Xe cT=> ?_,fun i hi=> ?_⟩
  ·rw [c]; show ((dw t.1 w x t.2).ae++[_]).length<=_; rw [zK,zL,gl]; omega
  ·rw [c]; show (dw t.1 w x t.2).Next+1<=_; rw [gn]; omega
  ·rw [c,b]; exact List.mem_append_right _ (zS.2 rfl)
  ·rw [c]; exact go q Xk hq
  ·rw [c]
   show cF (bM (dw t.1 w x t.2).aa t.2 (0:Int).toNat ⟨nm,j⟩) q u=_
   have hq2:q≠t.2:=fun z=>hnO (z▸Xe)
   rw [kS TB.T' F.b Im (by decide) _ hq,if_neg (fun z=>hq2 z.1),gs q u hq,if_neg hq2]
  ·rw [c]; exact gk i hi
end Go.Soft
