import Derived.Test.YthkhihfodaobkaaGreatEB
import Derived.Orders
import Derived.LoopN
import Derived.Laws.BitsLemmas
set_option linter.constructorNameAsVariable false
set_option linter.unusedSimpArgs false
set_option linter.unusedVariables false
namespace Go.Soft
open Go
variable {X:Ctx} {m M:Lk} {γ γ':Gh} {w w':World} {ρ:Operand->Value} {S T:St} {δ δ':Dl}
section
variable {R:Type} {E:Env R} {ops:Array Oper}
def HR (S:St) (rs:List Rec) (i:Nat):St:=(rs.take i).foldl lh S
def Zt (X:Ctx) (E:Env R) (ops:Array Oper) (S:St) (rs:List Rec):Prop:=∀ (i:Nat) (x:Rec),rs[i]? =some x ->
 ∀ K:List (Nat×Bool)×Bool×AV×Dl->Option R,(AZ X E ops ((HR S rs i).cut ops x.o) x.o fun p q v δ=>K (p,q,v,δ))=K (x.p,x.q,x.v,x.δ)
def H6 (ops:Array Oper):St->List Rec->List Fp
 | _,[]=>[]
 | S,x::l=>iY ops S x.o x.v x.δ::H6 ops (lh S x) l
theorem A8:∀ (rs:List Rec) (S:St) (i:Nat) (x:Rec),rs[i]? =some x->(H6 ops S rs)[i]? =some (iY ops (HR S rs i) x.o x.v x.δ)
 | [],_,_,_,h=>by simp at h
 | y::l,S,0,x,h=>by simp at h; subst h; rfl
 | y::l,S,i+1,x,h=>by
  have:=A8 l (lh S y) i x (by simpa using h)
  simpa [H6,HR] using this
theorem trace (r0:R) (hE:∀ f cb cJ,gq (E.fn f cb cJ)) {s':St} {fp':List Fp}:∀ (l:List Oper) (S:St) (fp:List Fp),(∀ K:St×List Fp->Option R,(gC X E ops true l S fp fun s f=>K (s,f))=K (s',fp')) ->
  ∃ rs:List Rec,rs.map (·.o)=l/\Zt X E ops S rs/\s'=rs.foldl lh S/\fp'=fp++H6 ops S rs
 | [],S,fp,h=>by
  have:=iR r0 h
  simp only [zG] at this
  exact ⟨[],rfl,fun i x hx=>by simp at hx,this.1.symm,by simp [H6,this.2]⟩
 | o::l,S,fp,h=>by
  obtain ⟨oc,rh⟩:=tW (X:=X) hE ops (S.cut ops o) o
  cases oc with
  | none =>
   exact False.elim<|bN r0 (α:=St×List Fp) (y:=(s',fp')) fun K=>by
    have h1:=h K
    have h2:=rh fun x=>gC X E ops true l ((S.app x.2.2.2).put o.dst (gd x.1 x.2.1 x.2.2.1)) (fp++[iY ops S o x.2.2.1 x.2.2.2]) fun s f=>K (s,f)
    exact h2.symm.trans h1
  | some x =>
   obtain ⟨p,q,v,δ⟩:=x
   have QH:∀ K:St×List Fp->Option R,(gC X E ops true l (lh S ⟨o,p,q,v,δ⟩) (fp++[iY ops S o v δ]) fun s f=>K (s,f))=K (s',fp'):=by
    intro K
    have h1:=h K
    have h2:=rh fun x=>gC X E ops true l ((S.app x.2.2.2).put o.dst (gd x.1 x.2.1 x.2.2.1)) (fp++[iY ops S o x.2.2.1 x.2.2.2]) fun s f=>K (s,f)
    exact h2.symm.trans h1
   obtain ⟨rs,h1,h2,h3,h4⟩:=trace r0 hE l _ _ QH
   refine ⟨⟨o,p,q,v,δ⟩::rs,by simp [h1],fun i x hx K=> ?_,by simpa using h3,by simp [H6,h4]⟩
   cases i with
   | zero=>simp at hx; subst hx; exact rh K
   | succ i=>exact h2 i x (by simpa using hx) K
theorem go_get {n:List Nat} {x:Fp}:∀ {m:List Fp} {i:Nat},gw.go n i m x=true->∀ (a:Nat) (y:Fp),m[a]? =some y->i+a∉n->apart y x=true
 | [],_,_,a,y,h,_=>by simp at h
 | z::m,i,hg,a,y,h,hn=>by
  simp only [gw.go,zB] at hg
  cases a with
  | zero =>
   simp at h; subst h
   have h1:=hg.1
   rw [vV (by simpa using hn)] at h1
   exact h1
  | succ a=>exact go_get hg.2 a y (by simpa using h) (by rw [show i+1+a=i+(a+1) by omega]; exact hn)
theorem wu {A:List (List Nat)}:∀ {l done:List Fp},gw A done.length done l=true->∀ (a b:Nat) (y x:Fp),(done++l)[a]? =some y->l[b]? =some x->a<done.length+b->a∉lB A (done.length+b)->apart y x=true
 | [],done,_,a,b,y,x,_,hx,_,_=>by simp at hx
 | z::l,done,h,a,b,y,x,hy,hx,tu,hn=>by
  simp only [gw,zB] at h
  cases b with
  | zero =>
   simp at hx; subst hx
   simp only [Nat.add_zero] at tu hn
   rw [List.getElem?_append_left tu] at hy
   exact go_get h.1 a y hy (by simpa using hn)
  | succ b =>
   have hlen:(done++[z]).length=done.length+1:=by simp
   have h2:=h.2
   rw [← hlen] at h2
   exact wu h2 a b y x (by simpa using hy) (by simpa using hx) (by rw [hlen]; omega) (by rw [hlen,show done.length+1+b=done.length+(b+1) by omega]; exact hn)
theorem RG {acc:List (List Nat)} {k x:Nat} (h:x∈lB acc k):k<acc.length:=by
 simp only [lB,ij] at h
 rcases Nat.lt_or_ge k acc.length with hk | hk
 ·exact hk
 ·rw [List.getElem?_eq_none hk] at h; simp at h
theorem G9 {acc b:List (List Nat)} {k:Nat} (h:k<acc.length):lB (acc++b) k=lB acc k:=by
 simp only [lB,ij,List.getElem?_append_left h]
theorem Gl {x y:Nat} {l:List Nat}:x∈Rr y l->x=y\/x∈l:=by
 simp only [Rr]; split
 ·exact .inr
 ·exact fun h=>zI.1 h
theorem Dm {x:Nat}:∀ {l m:List Nat},x∈KE l m->x∈l\/x∈m
 | [],m,h=> .inr h
 | y::l,m,h=>by
  simp only [KE] at h
  rcases Gl h with rfl | h
  ·exact .inl zO
  ·exact (Dm h).imp (zJ _) id
theorem GB {acc:List (List Nat)} {x:Nat}:∀ {es:List Nat},x∈AN acc es->∃ e∈es,x=e\/x∈lB acc e
 | [],h=>by simp [AN] at h
 | e::l,h=>by
  simp only [AN] at h
  rcases Gl h with rfl | h
  ·exact ⟨x,zO,.inl rfl⟩
  ·rcases Dm h with h | h
   ·exact ⟨e,zO,.inr h⟩
   ·obtain ⟨e',h1,h2⟩:=GB h; exact ⟨e',zJ _ h1,h2⟩
theorem Gt:∀ (l:List Oper) (acc:List (List Nat)),∃ b,lA acc l=acc++b
 | [],acc=>⟨[],by simp [lA]⟩
 | o::l,acc=>by
  obtain ⟨b,hb⟩:=Gt l (acc++[AN acc (jo o.after.toList)])
  exact ⟨AN acc (jo o.after.toList)::b,by simp [lA,hb]⟩
theorem GD:∀ {l:List Oper} {acc:List (List Nat)} {k x:Nat} {o:Oper},l[k]? =some o->x∈lB (lA acc l) (acc.length+k)->∃ e∈jo o.after.toList,x=e\/x∈lB (lA acc l) e
 | [],_,_,_,_,h,_=>by simp at h
 | z::l,acc,0,x,o,h,hx=>by
  simp at h; subst h
  obtain ⟨b,hb⟩:=Gt l (acc++[AN acc (jo z.after.toList)])
  have hz:lB (lA acc (z::l)) acc.length=AN acc (jo z.after.toList):=by
   simp only [lA,hb,lB,ij]; simp
  rw [Nat.add_zero,hz] at hx
  obtain ⟨e,h1,h2⟩:=GB hx
  refine ⟨e,h1,h2.imp id fun h3=> ?_⟩
  have:lA acc (z::l)=acc++([AN acc (jo z.after.toList)]++b):=by simp [lA,hb]
  rw [this,G9 (RG h3)]; exact h3
 | z::l,acc,k+1,x,o,h,hx=>by
  simp only [lA] at hx ⊢
  exact GD (acc:=acc++[AN acc (jo z.after.toList)]) (by simpa using h) (by rw [zK,zL,show acc.length+1+k=acc.length+(k+1) by omega]; exact hx)
theorem DS {A:List (List Nat)}:∀ {l:List Oper} {n:Nat},sv A n l=true->∀ (i:Nat) (o:Oper),l[i]? =some o->∀ j w,o.guard=some (j,w)->j∈lB A (n+i)
 | [],_,_,i,o,h,_,_,_=>by simp at h
 | z::l,n,hg,i,o,h,j,w,ho=>by
  simp only [sv,zB] at hg
  cases i with
  | zero=>simp at h; subst h; have h1:=hg.1; rw [ho] at h1; exact fb.1 h1
  | succ i=>have:=DS hg.2 i o (by simpa using h) j w ho; rwa [show n+1+i=n+(i+1) by omega] at this
theorem qf {e:Nat}:∀ {l:List Edge},e∈jo l↔∃ d∈l,Fe d=true/\d.on=e
 | []=>by simp [jo]
 | d::l=>by
  simp only [jo]
  cases h:Fe d with
  | true=>simp only [zI,qf,exists_eq_or_imp,h,true_and]; exact ⟨fun h=>h.imp Eq.symm id,fun h=>h.imp Eq.symm id⟩
  | false=>simp [qf,h]
theorem BT (d:Edge):Region.binds .any d=Fe d:=by
 obtain ⟨on,g⟩:=d
 cases g<;>rfl
theorem u6:∀ {l:List Oper} {n:Nat},ot n l=true->∀ (i:Nat) (o:Oper),l[i]? =some o->∀ e∈jo o.after.toList,e<n+i
 | [],_,_,i,o,h,_,_=>by simp at h
 | z::l,n,hg,i,o,h,e,he=>by
  simp only [ot,zB] at hg
  cases i with
  | zero=>simp at h; subst h; exact nU.1 hg.1 e he
  | succ i=>have:=u6 hg.2 i o (by simpa using h) e he; omega
structure XD (a b:Fp):Prop where
 wt:∀ t∈a.wt,t∉b.rt
 d1:∀ t,a.d=some t->t∉b.rt
 d2:∀ t,b.d=some t->t∉a.rt
 dd:∀ t,a.d=some t->b.d≠some t
 r1:∀ r∈a.wr,r∉b.rr
 r2:∀ r∈a.wr,r∉b.wr
 r3:∀ r∈a.rr,r∉b.wr
 v1:∀ r∈a.wv,r∉b.rv
 v2:∀ r∈a.wv,r∉b.wv
 v3:∀ r∈a.rv,r∉b.wv
 k1:∀ r∈a.kw,r∉b.pm
 k2:∀ r∈a.pm,r∉b.kw
theorem C7 {a:Option Nat} {l:List Nat} (h:Km a l=true):∀ t,a=some t->t∉l:=by
 intro t ht
 subst ht
 intro hm
 simp only [Km,fb.2 hm] at h
 cases h
theorem apart_spec {a b:Fp} (h:apart a b=true):XD a b:=by
 simp only [apart,zB] at h
 obtain ⟨h0,h1,h2,h3,h4,h5,h6,h7,h8,h9,h10,h11⟩:=h
 refine ⟨eI.1 h0,C7 h1,C7 h2,fun t ha hb=> ?_,eI.1 h4,eI.1 h5,eI.1 h6,eI.1 h7,eI.1 h8,eI.1 h9,eI.1 h10,eI.1 h11⟩
 rw [ha,hb] at h3
 simp only [Nat.beq_refl] at h3
 cases h3
theorem KF {Rs V:List Nat}:∀ {l:List (Nat×AV)} {t:Nat} {v:AV},t∉Pn Rs V l->lk l t=some v->Mu Rs V v.Cz
 | [],_,_,_,h=>by cases h
 | (k,u)::l,t,v,hn,h=>by
  simp only [Pn] at hn
  simp only [lk] at h
  cases hk:Nat.beq k t with
  | true =>
   simp only [hk,zA] at h
   have:=aF hk; subst this; subst h
   revert hn; split
   ·rename_i h1 h2
    intro _
    exact ⟨fun r hr hm=>(by rw [sO.2 ⟨r,hr,hm⟩] at h1; cases h1),fun r hr hm=>(by rw [sO.2 ⟨r,hr,hm⟩] at h2; cases h2)⟩
   ·intro hn; exact absurd zO hn
  | false =>
   simp only [hk] at h
   refine KF (l:=l) ?_ h
   revert hn; split
   ·exact id
   ·intro hn hm; exact hn (zJ _ hm)
theorem JW {Rs V:List Nat}:∀ {l:List (Nat×List Cv)} {t:Nat} {v:List Cv},t∉OE Rs V l->lk l t=some v->Mu Rs V v
 | [],_,_,_,h=>by cases h
 | (k,u)::l,t,v,hn,h=>by
  simp only [OE] at hn
  simp only [lk] at h
  cases hk:Nat.beq k t with
  | true =>
   simp only [hk,zA] at h
   have:=aF hk; subst this; subst h
   revert hn; split
   ·rename_i h1 h2
    intro _
    exact ⟨fun r hr hm=>(by rw [sO.2 ⟨r,hr,hm⟩] at h1; cases h1),fun r hr hm=>(by rw [sO.2 ⟨r,hr,hm⟩] at h2; cases h2)⟩
   ·intro hn; exact absurd zO hn
  | false =>
   simp only [hk] at h
   refine JW (l:=l) ?_ h
   revert hn; split
   ·exact id
   ·intro hn hm; exact hn (zJ _ hm)
theorem Dz (h:δ.quiet=true) (l:List Cv):Mu δ.jY δ.kv l:=by
 obtain ⟨mv,kr,ke,kn,kv,rs,vs⟩:=δ
 have:mv=[]/\kr=[]/\ke=[]/\kn=[]/\kv=[]:=by
  revert h; simp only [Dl.quiet]; split<;>simp_all
 obtain ⟨rfl,rfl,rfl,rfl,rfl⟩:=this
 exact ⟨fun r _ hm=>by simp [Dl.jY,keys] at hm,fun r _ hm=>by simp at hm⟩
theorem LP.ahead {A B:St} {x y:Rec} (h:XD (iY ops A x.o x.v x.δ) (iY ops B y.o y.v y.δ)) :
  LP (Sd ops y.o) (Uv (wy ops B y.o)) (Up B (wy ops B y.o)) A x:=by
 have wt:∀ t∈Sd ops y.o,∀ v,lk A.tm t=some v->Mu x.δ.jY x.δ.kv v.Cz:=by
  intro t ht v hv
  cases hq:x.δ.quiet with
  | true=>exact Dz hq _
  | false =>
   refine KF (fun hm=>h.wt t ?_ ht) hv
   simp only [iY,hq]; exact hm
 have wv:∀ k∈Uv (wy ops B y.o),∀ cs,A.lk.v k=some cs->Mu x.δ.jY x.δ.kv cs:=by
  intro k hk cs hc
  cases hq:x.δ.quiet with
  | true=>exact Dz hq _
  | false =>
   refine JW (fun hm=>h.v1 k ?_ hk) hc
   simp only [iY,hq,zH]; exact .inr (.inl hm)
 refine ⟨fun t ht hd=>h.d1 t hd ht,wt,fun k hk hm=>h.v1 k ?_ hk,wv,fun k hk hm=>h.r1 k ?_ ?_⟩
 ·simp only [iY,zH]; exact .inr (.inr hm)
 ·simp only [iY,zH]; exact .inr (.inr hm)
 ·simp only [iY,zH]; exact .inr (.inl hk)
theorem F3 {o:Oper} {t:Nat} {v:AV} (ht:t∈Sd ops o) (hv:lk S.tm t=some v):v∈Hg ops S o:=by
 simp only [Hg,xe]
 exact List.mem_map.2 ⟨t,ht,by simp only [St.get,hv]⟩
theorem Px {l:List AV} {v:AV} {r:Nat} (hv:v∈l) (hr:r∈vg v.Cz):r∈I7 l:=by
 induction l with
 | nil=>cases hv
 | cons x l ih=>simp only [I7,zH]; rcases zI.1 hv with rfl | hv; exact .inl hr; exact .inr (ih hv)
theorem NV {l:List AV} {v:AV} {r:Nat} (hv:v∈l) (hr:r∈vB v.Cz):r∈Ie l:=by
 induction l with
 | nil=>cases hv
 | cons x l ih=>simp only [Ie,zH]; rcases zI.1 hv with rfl | hv; exact .inl hr; exact .inr (ih hv)
theorem HY {l:List Nat} {k r:Nat} {cs:List Cv} (hk:k∈l) (hc:m.v k=some cs) (hr:r∈vg cs):r∈m.rowsOf l:=by
 induction l with
 | nil=>cases hk
 | cons x l ih=>simp only [Lk.rowsOf,zH]; rcases zI.1 hk with rfl | hk; exact .inl (by rw [hc]; exact hr); exact .inr (ih hk)
theorem I9 {l:List Nat} {k r:Nat} {cs:List Cv} (hk:k∈l) (hc:m.v k=some cs) (hr:r∈vB cs):r∈m.varsOf l:=by
 induction l with
 | nil=>cases hk
 | cons x l ih=>simp only [Lk.varsOf,zH]; rcases zI.1 hk with rfl | hk; exact .inl (by rw [hc]; exact hr); exact .inr (ih hk)
theorem LP.behind {A B:St} {x y:Rec} (h:XD (iY ops B y.o y.v y.δ) (iY ops A x.o x.v x.δ)) :
  LP (Sd ops y.o) (Uv (wy ops B y.o)) (Up B (wy ops B y.o)) B x:=by
 have kw:∀ r∈x.δ.jY,r∈(iY ops A x.o x.v x.δ).wr:=fun r hr=>by simp only [iY,zH]; exact .inr (.inl hr)
 refine ⟨fun t ht hd=>h.d2 t hd ht,fun t ht v hv=>⟨fun r hr hm=>h.r3 r ?_ (kw r hm),fun k hk hm=>h.k2 k ?_ hm⟩,fun k hk hm=>h.v3 k hk ?_,fun k hk cs hc=>⟨fun r hr hm=>h.r3 r ?_ (kw r hm),fun r hr hm=>h.k2 r ?_ hm⟩,fun k hk hm=>h.r3 k ?_ ?_⟩
 ·simp only [iY,zH]; exact .inl (Px (F3 ht hv) hr)
 ·simp only [iY,zH]; exact .inl (NV (F3 ht hv) hk)
 ·simp only [iY,zH]; exact .inr (.inr hm)
 ·simp only [iY,Up,zH]; exact .inr (.inl (.inr (HY hk hc hr)))
 ·simp only [iY,zH]; exact .inr (.inl (I9 hk hc hr))
 ·simp only [iY,zH]; exact .inr (.inl hk)
 ·simp only [iY,zH]; exact .inr (.inr hm)
theorem Xj.of {A B:St} {x y:Rec} (h:XD (iY ops A x.o x.v x.δ) (iY ops B y.o y.v y.δ)):Xj x y:=by
 have wr:∀ (A:St) (x:Rec),∀ r∈x.wr,r∈(iY ops A x.o x.v x.δ).wr:=fun A x r hr=>hr
 have wv:∀ (A:St) (x:Rec),∀ r∈x.wv,r∈(iY ops A x.o x.v x.δ).wv:=fun A x r hr=>by
  simp only [iY,Rec.wv,zH] at hr ⊢
  exact hr.imp id .inr
 have ro:∀ (A:St) (x:Rec),∀ r∈x.ro,r∈(iY ops A x.o x.v x.δ).rr:=fun A x r hr=>by
  simp only [iY,Rec.ro,zH] at hr ⊢
  exact .inr (.inr hr)
 have vo:∀ (A:St) (x:Rec),∀ r∈x.vo,r∈(iY ops A x.o x.v x.δ).pm:=fun A x r hr=>by
  simp only [iY,Rec.vo,zH] at hr ⊢
  exact .inr (.inr hr)
 exact ⟨h.dd,fun r hr hm=>h.r2 r (wr A x r hr) (wr B y r hm),fun r hr hm=>h.v2 r (wv A x r hr) (wv B y r hm),fun r hr hm=>h.r1 r (wr A x r hr) (ro B y r hm),fun r hr hm=>h.k1 r hr (vo B y r hm),
  fun r hr hm=>h.r3 r (ro A x r hm) (wr B y r hr),fun r hr hm=>h.k2 r (vo A x r hm) hr⟩
variable {e0:Lk} {γ0:Gh} {w0:World}
def sd (L:Nat->Bool):Nat->List Oper->List Nat
 | _,[]=>[]
 | n,o::l=>(bif L n then (match o.dst with | some d=>[d] | none=>[]) else [])++sd L (n+1) l
theorem lY {L:Nat->Bool} {t:Nat}:∀ {l:List Oper} {n:Nat},t∈sd L n l↔∃ (k:Nat) (o:Oper),l[k]? =some o/\L (n+k)=true/\o.dst=some t
 | [],n=>by simp [sd]
 | o::l,n=>by
  simp only [sd,zH,lY (l:=l)]
  constructor
  ·rintro (h | ⟨k,o',h1,h2,h3⟩)
   ·cases hL:L n with
    | false=>rw [hL] at h; simp at h
    | true =>
     rw [hL] at h
     cases ho:o.dst with
     | none=>rw [ho] at h; simp at h
     | some d=>rw [ho] at h; simp at h; exact ⟨0,o,rfl,by simpa using hL,by rw [ho,h]⟩
   ·exact ⟨k+1,o',by simpa using h1,by rw [← h2]; congr 1; omega,h3⟩
  ·rintro ⟨k,o',h1,h2,h3⟩
   cases k with
   | zero=>simp at h1; subst h1; rw [Nat.add_zero] at h2; rw [h2,h3]; exact .inl (by simp)
   | succ k=>exact .inr ⟨k,o',by simpa using h1,by rw [← h2]; congr 1; omega,h3⟩
theorem Gc:∀ {l:List Oper},(kZ l).Nodup->∀ (i j:Nat) (a b:Oper) (t:Nat),l[i]? =some a->l[j]? =some b->a.dst=some t->b.dst=some t->i=j
 | [],_,i,_,_,_,_,h,_,_,_=>by simp at h
 | o::l,hn,i,j,a,b,t,hi,hj,ha,hb=>by
  have Nd:(kZ l).Nodup:=by
   simp only [kZ] at hn
   cases ho:o.dst with
   | none=>rwa [ho] at hn
   | some d=>rw [ho] at hn; exact (List.nodup_cons.1 hn).2
  have Cj:∀ {k:Nat} {x:Oper},o.dst=some t->l[k]? =some x->x.dst=some t->False:=by
   intro k x ho hx hxt
   simp only [kZ,ho] at hn
   exact (List.nodup_cons.1 hn).1 (s7.2 ⟨x,List.mem_of_getElem? hx,hxt⟩)
  cases i with
  | zero =>
   simp at hi; subst hi
   cases j with
   | zero=>rfl
   | succ j=>exact (Cj ha (by simpa using hj) hb).elim
  | succ i =>
   cases j with
   | zero=>simp at hj; subst hj; exact (Cj hb (by simpa using hi) ha).elim
   | succ j=>rw [Gc Nd i j a b t (by simpa using hi) (by simpa using hj) ha hb]
theorem Sc (r0:R) (hX:iy X) (hE:te X E) {a:Act} {w:World} (hr:Po X ops) {s':St} {fp':List Fp} (hK:∀ K:St×List Fp->Option R,(gC X E ops true ops.toList S [] fun s f=>K (s,f))=K (s',fp'))
  (MR:ot 0 ops.toList=true) (hga:sv (lA [] ops.toList) 0 ops.toList=true) (kX:gw (lA [] ops.toList) 0 [] fp'=true)
  (Zk:o9 S) (hI:Inv X e0 γ0 w0 S γ a w)
  {Q:Exit->Act->World->Prop} (hQ:∀ γ' a' w',Inv X e0 γ0 w0 s' γ' a' w'->Q .normal a' w') :
  wpAny X.P .any ops Q ops.size (Array.replicate ops.size false) a w:=by
 obtain ⟨rs,ML,htr,rfl,rfl⟩:=trace r0 hE.FC _ _ _ hK
 have hlen:rs.length=ops.size:=by have:=congrArg List.length ML; simpa using this
 have rQ:∀ (i:Nat) (x:Rec),rs[i]? =some x->ops[i]? =some x.o:=by
  intro i x hx
  have:(rs.map (·.o))[i]? =some x.o:=by rw [List.getElem?_map,hx]; rfl
  rw [ML] at this; simpa using this
 have hro:∀ (i:Nat) (o:Oper),ops[i]? =some o->∃ x,rs[i]? =some x/\x.o=o:=by
  intro i o ho
  have:(rs.map (·.o))[i]? =some o:=by rw [ML]; simpa using ho
  rw [List.getElem?_map] at this
  cases hx:rs[i]? with
  | none=>rw [hx] at this; cases this
  | some x=>rw [hx] at this; simp at this; exact ⟨x,rfl,this⟩
 let A:=lA [] ops.toList
 have M0:∀ (i j:Nat) (x y:Rec),rs[i]? =some x->rs[j]? =some y->i<j->i∉lB A j->XD (iY ops (HR S rs i) x.o x.v x.δ) (iY ops (HR S rs j) y.o y.v y.δ):=by
  intro i j x y hx hy Yf hn
  have h0:gw A (List.length ([]:List Fp)) [] (H6 ops S rs)=true:=by simpa using kX
  exact apart_spec (wu h0 i j _ _ (by simpa using A8 rs S i x hx) (A8 rs S j y hy) (by simpa using Yf) (by simpa using hn))
 have hA:∀ (j x:Nat) (o:Oper),ops[j]? =some o->x∈lB A j->∃ e∈jo o.after.toList,x=e\/x∈lB A e:=by
  intro j x o ho hx
  exact GD (l:=ops.toList) (acc:=[]) (k:=j) (by simpa using ho) (by simpa using hx)
 have main:∀ (fuel:Nat) (listed:Array Bool) (γ:Gh) (a:Act) (w:World),listed.size=ops.size->((List.range ops.size).filter fun k=> !listed.getD k true).length<=fuel ->
   (∀ j,listed.getD j true=true->j<ops.size->∀ x∈lB A j,listed.getD x true=true) ->
   Inv X e0 γ0 w0 (rM (fun k=>listed.getD k true) 0 S rs) γ a w->yt (sd (fun k=>listed.getD k true) 0 ops.toList) (rM (fun k=>listed.getD k true) 0 S rs) a ->
   wpAny X.P .any ops Q fuel listed a w:=by
  intro fuel
  induction fuel with
  | zero =>
   intro listed γ a w mn hU hC hI hG
   have SW:∀ k,k<ops.size->listed.getD k true=true:=by
    intro k hk
    have VQ:(List.range ops.size).filter (fun k=> !listed.getD k true)=[]:=List.length_eq_zero_iff.1 (Nat.le_zero.1 hU)
    have:=List.filter_eq_nil_iff.1 VQ k (List.mem_range.2 hk)
    simpa using this
   refine ⟨List.eq_nil_iff_forall_not_mem.2 fun j hj=> ?_,hQ γ a w ?_⟩
   ·obtain ⟨h1,o,ho,_⟩:=mem_ready.1 hj
    rw [SW j (Array.getElem?_eq_some_iff.1 ho).1] at h1; cases h1
   ·rw [← Fh (L:=fun k=>listed.getD k true) rs 0 S fun k _ hk=>SW k (by omega)]; exact hI
  | succ fuel ih =>
   intro listed γ a w mn hU hC hI hG
   refine ⟨fun VQ=>hQ γ a w ?_,fun i hi=> ?_⟩
   ·have SW:∀ n,∀ k,k<n->k<ops.size->listed.getD k true=true:=by
     intro n
     induction n with
     | zero=>intro k hk; omega
     | succ n ihn =>
      intro k hk hks
      rcases Nat.lt_or_ge k n with h | h
      ·exact ihn k h hks
      ·have Fq:k=n:=by omega
       subst Fq
       cases hl:listed.getD k true with
       | true=>rfl
       | false =>
        exfalso
        have:k∈Region.ready .any ops listed:=by
         refine mem_ready.2 ⟨hl,ops[k],Array.getElem?_eq_getElem hks,fun e he hb=> ?_⟩
         have hm:e.on∈jo (ops[k]).after.toList:=qf.2 ⟨e,by simpa using he,by rw [← BT]; exact hb,rfl⟩
         have fP:=u6 MR k ops[k] (by simp [hks]) e.on hm
         rw [Nat.zero_add] at fP
         have:=ihn e.on fP (by omega)
         have SK:e.on<listed.size:=by omega
         rw [Array.getD_eq_getD_getElem?,Array.getElem?_eq_getElem SK] at this ⊢
         exact this
        rw [VQ] at this; cases this
    rw [← Fh (L:=fun k=>listed.getD k true) rs 0 S fun k _ hk=>SW ops.size k (by omega) (by omega)]; exact hI
   ·obtain ⟨FJ,o,ho,YR⟩:=mem_ready.1 hi
    have his:i<ops.size:=(Array.getElem?_eq_some_iff.1 ho).1
    obtain ⟨x,hx,hxo⟩:=hro i o ho
    subst hxo
    let L:Nat->Bool:=fun k=>listed.getD k true
    have hLi:L i=false:=FJ
    have Vr:∀ y∈lB A i,L y=true:=by
     intro y hy
     obtain ⟨e,he,VF⟩:=hA i y x.o ho hy
     obtain ⟨d,hd,hb,rfl⟩:=qf.1 he
     have V4:=YR d (by simpa using hd) (by rw [BT]; exact hb)
     have fP:d.on<i:=by have:=u6 MR i x.o (by simpa using ho) d.on he; omega
     have SK:d.on<listed.size:=by omega
     have XF:listed.getD d.on true=true:=by
      rw [Array.getD_eq_getD_getElem?,Array.getElem?_eq_getElem SK] at V4 ⊢; exact V4
     rcases VF with rfl | VF
     ·exact XF
     ·exact hC d.on XF (by omega) y VF
    let T:=rM L 0 S rs
    let S':=(HR S rs i).cut ops x.o
    have Cl:rs=rs.take i++x::rs.drop (i+1):=by
     have rT:i<rs.length:=by omega
     have:rs.drop i=x::rs.drop (i+1):=by
      rw [List.drop_eq_getElem_cons rT]
      congr 1
      have:=List.getElem?_eq_getElem rT
      rw [hx] at this; exact (Option.some.inj this).symm
     rw [← this,List.take_append_drop]
    have SJ:(rs.take i).length=i:=by simp; omega
    have VB:FA (Sd ops x.o) (Uv (wy ops (HR S rs i) x.o)) (Up (HR S rs i) (wy ops (HR S rs i) x.o)) (HR S rs i) T:=by
     show FA _ _ _ _ (rM L 0 S rs)
     rw [Cl,qQ,SJ]
     simp only [Nat.zero_add,rM,hLi,zF]
     rw [← Cl]
     refine JK L _ _ _ _ (Kc L (rs.take i) 0 S S ⟨fun _ _=>rfl,fun _ _=>rfl,fun _ _=>rfl⟩ fun k y hk hL=> ?_) fun k y hk hL=> ?_
     ·have JF:k<i:=by have:=(zU.1 hk).1; omega
      have rW:rs[k]? =some y:=by rw [List.getElem?_take,if_pos JF] at hk; exact hk
      rw [Nat.zero_add] at hL
      have hn:k∉lB A i:=fun hm=>by have:=Vr k hm; rw [hL] at this; cases this
      have:=LP.ahead (M0 k i y x rW hx JF hn)
      rw [List.take_take,Nat.min_eq_left (Nat.le_of_lt JF)]
      exact this
     ·have rW:rs[i+1+k]? =some y:=by rw [List.getElem?_drop] at hk; exact hk
      have fP:i+1+k<ops.size:=by have:=(zU.1 rW).1; omega
      have hn:i∉lB A (i+1+k):=fun hm=>by have:=hC (i+1+k) hL fP i hm; rw [FJ] at this; cases this
      exact LP.behind (M0 i (i+1+k) x y hx rW (by omega) hn)
    have hm:Le S'.lk T.lk:=by
     refine ⟨fun k row hk=> ?_,fun k cs hk=> ?_⟩
     ·have hk:lk (BM (Up (HR S rs i) (wy ops (HR S rs i) x.o)) (HR S rs i).rs) k=some row:=hk
      rw [EM] at hk
      split at hk
      ·rename_i eE; rw [← VB.r k eE]; exact hk
      ·cases hk
     ·have hk:lk (BM (Uv (wy ops (HR S rs i) x.o)) (HR S rs i).vs) k=some cs:=hk
      rw [EM] at hk
      split at hk
      ·rename_i eE; rw [← VB.v k eE]; exact hk
      ·cases hk
    have ht:∀ t av,lk S'.tm t=some av->lk T.tm t=some av:=by
     intro t av hk
     have hk:lk (BM (Sd ops x.o) (HR S rs i).tm) t=some av:=hk
     rw [EM] at hk
     split at hk
     ·rename_i eE; rw [← VB.t t eE]; exact hk
     ·cases hk
    have hol:ops.toList[i]? =some x.o:=by simpa using ho
    have Ck:∀ d,x.o.dst=some d->d<X.nt:=fun d hd=>hr.lt d (s7.2 ⟨x.o,List.mem_of_getElem? hol,hd⟩)
    have HI:∀ j w,x.o.guard=some (j,w)->∀ oj t,ops[j]? =some oj->oj.dst=some t->t∈sd L 0 ops.toList:=by
     intro j w hg oj t hj ht
     have hm:=DS hga i x.o hol j w hg
     rw [Nat.zero_add] at hm
     exact lY.2 ⟨j,oj,by simpa using hj,by rw [Nat.zero_add]; exact Vr j hm,ht⟩
    have hdn:∀ d,x.o.dst=some d->d∉sd L 0 ops.toList:=by
     intro d hd eE
     obtain ⟨k,ok,h1,h2,h3⟩:=lY.1 eE
     have:=Gc hr.nd k i ok x.o d h1 hol h3 hd
     subst this
     rw [Nat.zero_add,hLi] at h2; cases h2
    let listed':=listed.setIfInBounds i true
    have HE:∀ k,listed'.getD k true=(L k||Nat.beq k i):=by
     intro k
     by_cases JF:i=k
     ·subst JF
      have:i<listed.size:=by omega
      have hb:Nat.beq i i=true:=Nat.beq_refl i
      rw [hb,Bool.or_true]
      show (listed.setIfInBounds i true).getD i true=true
      simp [this]
     ·have hb:Nat.beq k i=false:=by cases h:Nat.beq k i; rfl; exact absurd (aF h).symm JF
      rw [hb,Bool.or_false]
      exact getD_set_ne true JF
    have hEq:CL (lh T x) (rM (fun k=>listed'.getD k true) 0 S rs):=by
     have Nl:∀ k,k≠i->L k=listed'.getD k true:=by
      intro k hk
      have hb:Nat.beq k i=false:=by cases h:Nat.beq k i; rfl; exact absurd (aF h) hk
      rw [HE,hb,Bool.or_false]
     have e1:rM (fun k=>listed'.getD k true) 0 S rs=rM L (i+1) (lh (rM L 0 S (rs.take i)) x) (rs.drop (i+1)):=by
      rw [Cl,qQ,SJ]
      simp only [Nat.zero_add,rM]
      rw [← Cl,HE i,Nat.beq_refl,Bool.or_true,zE]
      rw [x7 (L:=fun k=>listed'.getD k true) (L':=L) (rs.drop (i+1)) (i+1) _ fun k h1 _=>(Nl k (by omega)).symm]
      rw [x7 (L:=fun k=>listed'.getD k true) (L':=L) (rs.take i) 0 S fun k _ h2=>(Nl k (by rw [SJ] at h2; omega)).symm]
     have e2:T=rM L (i+1) (rM L 0 S (rs.take i)) (rs.drop (i+1)):=by
      show rM L 0 S rs=_
      conv=>lhs; rw [Cl]
      rw [qQ,SJ]
      simp only [Nat.zero_add,rM,hLi,zF]
     rw [e1,e2]
     refine (Gg L x (rs.drop (i+1)) (i+1) _ fun k y hk hL=> ?_).symm
     have rW:rs[i+1+k]? =some y:=by rw [List.getElem?_drop] at hk; exact hk
     have fP:i+1+k<ops.size:=by have:=(zU.1 rW).1; omega
     have hn:i∉lB A (i+1+k):=fun hm=>by have:=hC (i+1+k) hL fP i hm; rw [FJ] at this; cases this
     exact Xj.of (M0 i (i+1+k) x y hx rW (by omega) hn)
    have hU':((List.range ops.size).filter fun k=> !listed'.getD k true).length<=fuel:=by
     have h1:((List.range ops.size).filter fun k=> !listed'.getD k true)=((List.range ops.size).filter fun k=> !listed.getD k true).filter fun k=> !Nat.beq k i:=by
      rw [List.filter_filter]
      refine List.filter_congr fun k _=> ?_
      rw [HE]
      show (!(listed.getD k true||Nat.beq k i))=_
      cases listed.getD k true<;>cases Nat.beq k i<;>rfl
     rw [h1]
     have eE:i∈(List.range ops.size).filter fun k=> !listed.getD k true:=List.mem_filter.2 ⟨List.mem_range.2 his,by rw [FJ]; rfl⟩
     have:=List.length_filter_lt_length_iff_exists (l:=(List.range ops.size).filter fun k=> !listed.getD k true) (p:=fun k=> !Nat.beq k i) |>.2 ⟨i,eE,by simp [Nat.beq_refl]⟩
     omega
    have hC':∀ j,listed'.getD j true=true->j<ops.size->∀ y∈lB A j,listed'.getD y true=true:=by
     intro j hj hjs y hy
     rw [HE] at hj ⊢
     by_cases Y3:j=i
     ·subst Y3; rw [Vr y hy]; rfl
     ·have hb:Nat.beq j i=false:=by cases h:Nat.beq j i; rfl; exact absurd (aF h) Y3
      rw [hb,Bool.or_false] at hj
      have:=hC j hj hjs y hy
      show (listed.getD y true||Nat.beq y i)=true
      rw [this]; rfl
    have VR:=Ki r0 hX hE hI.rel hI.top hI.tmp hG hm ht hr.nt Ck HI (v:=x.v) (δ:=x.δ) (p:=x.p) (q:=x.q) (fun K=>htr i x hx K) (next:=fun _ _=>True) (Q:=Q) (fun _ _ _ _ _=>trivial)
    have hgp:=VR.1
    have xu:=(Ki r0 hX hE hI.rel hI.top hI.tmp hG hm ht hr.nt Ck HI (v:=x.v) (δ:=x.δ) (p:=x.p) (q:=x.q) (fun K=>htr i x hx K) (next:=wpAny X.P .any ops Q fuel listed') (Q:=Q) fun γ' w' u pO hu=>by
     refine ih listed' γ' (a.put x.o.dst u) w' (by simp [listed',mn]) hU' hC' ((hI.step pO Ck hu).eqv hEq) ?_
     refine yt.eqv ?_ hEq
     refine hG.step (fun t ht=> ?_) (fun d hd=>⟨hdn d hd,Nat.lt_of_lt_of_le (Ck d hd) hI.tmp.1⟩) hgp
     obtain ⟨k,ok,h1,h2,h3⟩:=lY.1 ht
     refine lY.2 ⟨k,ok,h1,?_,h3⟩
     rw [Nat.zero_add] at h2 ⊢
     rw [HE]
     show (listed.getD k true||Nat.beq k i)=true
     rw [h2]; rfl).2
    simp only [wpOp,ho]
    cases hw:Region.wanted x.o (yielded ops a.tmps) with
    | true=>rw [hw] at xu; simp only [if_true] at xu ⊢; exact .inl xu
    | false=>rw [hw] at xu; simpa using xu
 have hL0:∀ k,k<ops.size->(Array.replicate ops.size false).getD k true=false:=by
  intro k hk; simp [hk]
 have e0':rM (fun k=>(Array.replicate ops.size false).getD k true) 0 S rs=S:=GS rs 0 S fun k _ hk=>hL0 k (by omega)
 refine main ops.size (Array.replicate ops.size false) γ a w (by simp) (Nat.le_trans (List.length_filter_le _ _) (by simp)) (fun j hj hjs=>by rw [hL0 j hjs] at hj; cases hj) (by rw [e0']; exact hI) ?_
 rw [e0']
 have hd0:sd (fun k=>(Array.replicate ops.size false).getD k true) 0 ops.toList=[]:=by
  refine List.eq_nil_iff_forall_not_mem.2 fun t ht=> ?_
  obtain ⟨k,o,h1,h2,_⟩:=lY.1 ht
  have:k<ops.size:=by have:=(zU.1 h1).1; simpa using this
  rw [Nat.zero_add,hL0 k this] at h2; cases h2
 rw [hd0]
 exact vG Zk
end
end Go.Soft
namespace Go.Soft
open Go
variable {X:Ctx} {m M:Lk} {γ γ':Gh} {w w':World} {ρ:Operand->Value} {S T:St} {δ δ':Dl}
section
variable {R:Type} {E:Env R} {ops:Array Oper} {e0:Lk} {γ0:Gh} {w0:World} {a:Act}
theorem Inv.drawn (h:Inv X e0 γ0 w0 S γ a w) (n:Nat):Inv X e0 γ0 w0 S γ a { w with drawn:=n }:=by
 refine ⟨⟨h.rel.vs,fun k row hk=>Hd (h.rel.rs k row hk) fun g o hg _=>⟨hg,rfl⟩⟩,h.top,h.tmp,h.df,⟨h.fr.os,h.fr.tape,h.fr.output,h.fr.size,h.fr.oO,h.fr.top⟩,h.i3,h.i4,h.i2⟩
def aa5 (ops:Array Oper) (draw:Bool) (K:St->Option R) (x:St×List Fp):Option R:=match draw with
 | false=>K ⟨iT x.1.tm,x.1.vs,x.1.rs⟩
 | true=>match ot 0 ops.toList&&(sv (lA [] ops.toList) 0 ops.toList&&gw (lA [] ops.toList) 0 [] x.2) with
  | true=>K ⟨iT x.1.tm,x.1.vs,x.1.rs⟩
  | false=>Option.none
theorem U6 (r0:R) (hX:iy X) (hE:te X E) {id:Nat} {draw:Bool} {s':St} (hK:∀ K:St->Option R,wX X E ops draw S K=K s') (Zk:o9 S) (hI:Inv X e0 γ0 w0 S γ a w)
  {Q:Exit->Act->World->Prop} (hQ:o9 s'->∀ γ' a' w',Inv X e0 γ0 w0 s' γ' a' w'->Q .normal a' w'):(Code.region id ops draw).wp X.P Q a w:=by
 simp only [wX] at hK
 cases hc:fB (kZ ops.toList)&&(s6 X.nt (kZ ops.toList)&&(Nat.ble X.nt 1500&&LK 0 ops.toList)) with
 | false=>simp only [hc] at hK; exact (bN r0 hK).elim
 | true =>
  simp only [hc] at hK
  have hr:=Xw hc
  obtain ⟨oc,rh⟩:=mR (X:=X) hE.FC ops draw ops.toList S []
  cases oc with
  | none =>
   refine False.elim (bN r0 (α:=St) (y:=s') fun K=> ?_)
   have h1:=hK K
   have h2:=rh (aa5 ops draw K)
   exact h2.symm.trans h1
  | some x =>
   obtain ⟨s1,fp1⟩:=x
   have hKs:∀ K:St×List Fp->Option R,(gC X E ops draw ops.toList S [] fun s f=>K (s,f))=K (s1,fp1):=fun K=>rh K
   cases draw with
   | false =>
    have hs:s'=⟨iT s1.tm,s1.vs,s1.rs⟩:=(iR r0 fun K=>(by
     have h1:=hK K
     have h2:=rh fun x=>K ⟨iT x.1.tm,x.1.vs,x.1.rs⟩
     exact h1.symm.trans h2))
    refine wp_region ?_
    have:=On r0 hX hE hr (Q:=Q) (s':=s1) (fp':=fp1) (fun γ' a' w' Nn=>hQ (hs▸BJ s1) γ' a' w' (hs▸Nn.drop)) ops.toList [] S γ a w [] (by simp) hI (vG Zk) hKs
    rw [List.range_eq_range']
    simpa using this
   | true =>
    have hs:(ot 0 ops.toList&&(sv (lA [] ops.toList) 0 ops.toList&&gw (lA [] ops.toList) 0 [] fp1))=true/\s'=⟨iT s1.tm,s1.vs,s1.rs⟩:=by
     cases fJ:ot 0 ops.toList&&(sv (lA [] ops.toList) 0 ops.toList&&gw (lA [] ops.toList) 0 [] fp1) with
     | false =>
      refine False.elim (bN r0 (α:=St) (y:=s') fun K=> ?_)
      have h1:=hK K
      have h2:=rh fun x=>match ot 0 ops.toList&&(sv (lA [] ops.toList) 0 ops.toList&&gw (lA [] ops.toList) 0 [] x.2) with
       | true=>K ⟨iT x.1.tm,x.1.vs,x.1.rs⟩
       | false=>Option.none
      have h3:=h2.symm.trans h1
      simp only [Option.bind_some,fJ] at h3
      exact h3
     | true =>
      refine ⟨rfl,iR r0 fun K=> ?_⟩
      have h1:=hK K
      have h2:=rh fun x=>match ot 0 ops.toList&&(sv (lA [] ops.toList) 0 ops.toList&&gw (lA [] ops.toList) 0 [] x.2) with
       | true=>K ⟨iT x.1.tm,x.1.vs,x.1.rs⟩
       | false=>Option.none
      have h3:=h1.symm.trans h2
      simp only [Option.bind_some,fJ] at h3
      exact h3
    obtain ⟨fJ,hs⟩:=hs
    simp only [zB] at fJ
    exact wp_region_any hX.mixed (Sc r0 hX hE hr hKs fJ.1 fJ.2.1 fJ.2.2 Zk (hI.drawn _) fun γ' a' w' Nn=>hQ (hs▸BJ s1) γ' a' w' (hs▸Nn.drop))
end
structure Bq (X:Ctx) (γ0:Gh) (w0:World) (S:St) (γ:Gh) (a:Act) (w:World):Prop where
 rel:Rel X S.lk γ w
 top:∀ g,w.heap.size<=g->γ.O g=none
 tmp:E7 X S γ a
 df:a.defers=[]
 fr:Fr γ0.O w0 γ.O w
 i4:∀ k,200000<=k->k<300000->γ.rv k=γ0.rv k
 i2:∀ k,k<1000->γ.vb k=γ0.vb k
def I3 (e0:Lk) (γ0:Gh) (S:St) (γ:Gh):Prop:=∀ k row,100000<=k->k<400000->S.lk.r k=some row->row.ow=1->e0.r k=some row/\γ.rv k=γ0.rv k/\γ.cv k=γ0.cv k
theorem Inv.R0 {e0:Lk} {γ0:Gh} {w0:World} {a:Act} (h:Inv X e0 γ0 w0 S γ a w):Bq X γ0 w0 S γ a w:=⟨h.rel,h.top,h.tmp,h.df,h.fr,h.i4,h.i2⟩
theorem Bq.inv {e0:Lk} {γ0:Gh} {w0:World} {a:Act} (h:Bq X γ0 w0 S γ a w) (h3:I3 e0 γ0 S γ):Inv X e0 γ0 w0 S γ a w:=⟨h.rel,h.top,h.tmp,h.df,h.fr,h3,h.i4,h.i2⟩
theorem IP {γ0:Gh} {w0:World} {a:Act} (h:Bq X γ0 w0 S γ a w):Bq X γ0 w0 ⟨[],[],[]⟩ γ a w :=
 ⟨⟨fun k cs hk=>(by cases hk),fun k row hk=>(by cases hk)⟩,h.top,⟨h.tmp.1,fun t av ht=>(by cases ht)⟩,h.df,h.fr,h.i4,h.i2⟩
theorem cS.Pa {a:Rb} {O O':OM} {r k d:Nat} {row:Row} {v:Value} {cs:List Value} (h:cS X O w r row v cs) (ha:eu row.ow=true->a.r r=some (k,d)) (hle:nO d row.ow=true\/(d=row.ow/\eu row.ow=false/\row.ow≠3))
  (hb:∀ g o,w.heap[g]? =some o->R5 r row.ow (O g)->w'.heap[g]? =some o/\O' g=(O g).bind a.f):cS X O' w' k { row with ow:=d } v cs:=by
 rcases hle with hle | ⟨rfl,ho,h3⟩
 ·exact h.relabel ha hle hb
 ·obtain ⟨τ,xs,ow⟩:=row
  simp only at ho h3 ⊢
  have acf:ow≠4/\ow≠5:=by constructor<;>(rintro rfl; simp [eu] at ho)
  have tc:∀ k,dN k ow= .mW:=by
   intro k; simp only [dN,ho]
   try (split<;>first | exact absurd rfl h3 | rfl)
  have nc:∀ k e c,dP k e c ow= .mW:=by
   intro k e c; simp only [dP]
   try (split<;>first | rfl | (exfalso; omega))
  have cl:∀ g,In .mW (O g)->In .mW ((O g).bind a.f):=by
   intro g hg
   rcases hg with hg | hg<;>rw [hg]
   ·exact .inl rfl
   ·exact .inr rfl
  refine ⟨h.top.re (c':=dN k ow) (fun g o hg hi=> ?_) (by rw [tc]; exact fun h=>(by cases h)),fun e c ct he hc=> ?_⟩
  ·obtain ⟨h1,h2⟩:=hb g o hg (.inl hi); simp only [tc] at hi; exact ⟨h1,by rw [h2,tc]; exact cl g hi⟩
  ·obtain ⟨u,hu,hr⟩:=h.rA e c ct he hc
   exact ⟨u,hu,hr.re (c':=dP k e c ow) (fun g o hg hi=>by obtain ⟨h1,h2⟩:=hb g o hg (.inr ⟨e,c,hi⟩); simp only [nc] at hi; exact ⟨h1,by rw [h2,nc]; exact cl g hi⟩) (by rw [nc]; exact fun h=>(by cases h))⟩
structure WY (S T:St) (μ:Nat->Option Nat) (κ:Nat->Nat) (f:Cv->Cv):Prop where
 inj:∀ r r' k,μ r=some k->μ r'=some k->r=r'
 r1:∀ k row',T.lk.r k=some row'->∃ r row,μ r=some k/\S.lk.r r=some row/\row'={ row with ow:=κ r }
 r2:∀ r k row,μ r=some k->S.lk.r r=some row->T.lk.r k=some { row with ow:=κ r }
 kk:∀ r k row,μ r=some k->S.lk.r r=some row->nO (κ r) row.ow=true\/(κ r=row.ow/\eu row.ow=false/\row.ow≠3)
 v1:∀ k cs',T.lk.v k=some cs'->∃ cs,S.lk.v k=some cs/\cs'=cs.map f
 t1:∀ t av',lk T.tm t=some av'->∃ av,lk S.tm t=some av/\av'=km f av
 fu:f .un= .un
 fr:∀ x,f x= .un\/(f x=x/\x.row=none/\∀ k∈x.vk,∀ cs,S.lk.v k=some cs->∃ cs',T.lk.v k=some cs')\/∃ r k,μ r=some k /\
  ((x= .sw r/\f x= .sw k)\/(∃ o n,x= .sl r o n/\f x= .sl k o n)\/(∃ e c,x= .nw r e c/\f x= .nw k e c)\/(∃ e c o n,x= .ns r e c o n/\f x= .ns k e c o n) \/
   (∃ e c,x= .pe r e c/\f x= .pe k e c)\/∃ e c o n,x= .pn r e c o n/\f x= .pn k e c o n)
 i4:∀ r k,μ r=some k->200000<=k->k<300000->r=k
theorem WY.ok {γ0:Gh} {w0:World} {a:Act} {μ:Nat->Option Nat} {κ:Nat->Nat} {f:Cv->Cv} (hn:WY S T μ κ f) (h:Bq X γ0 w0 S γ a w) :
  ∃ γ',Bq X γ0 w0 T γ' a w/\∀ r k row,μ r=some k->S.lk.r r=some row->γ'.rv k=γ.rv r/\γ'.cv k=γ.cv r:=by
 classical
 let rb:Rb:=⟨fun r=>match μ r,S.lk.r r with | some k,some _=>some (k,κ r) | _,_=>none,none,fun k=>some (.v k)⟩
 let pre:Nat->Nat:=fun k=>if hk:∃ r,μ r=some k then Classical.choose hk else k
 have xl:∀ r k,μ r=some k->pre k=r:=by
  intro r k hr
  have hk:∃ r,μ r=some k:=⟨r,hr⟩
  show (if hk:∃ r,μ r=some k then Classical.choose hk else k)=r
  rw [dif_pos hk]
  exact hn.inj _ _ k (Classical.choose_spec hk) hr
 let γ':Gh:=⟨fun g=>(γ.O g).bind rb.f,fun k=>γ.rv (pre k),fun k=>γ.cv (pre k),γ.vb⟩
 have xq:∀ r k,μ r=some k->γ'.rv k=γ.rv r/\γ'.cv k=γ.cv r:=by
  intro r k hr
  exact ⟨by show γ.rv (pre k)=_; rw [xl r k hr],by show γ.cv (pre k)=_; rw [xl r k hr]⟩
 have pP:∀ x v,bp S.lk γ x v->bp T.lk γ' (f x) v:=by
  intro x v hx
  rcases hn.fr x with he | ⟨he,bo,hvk⟩ | ⟨r,k,hr,hc⟩
  ·rw [he]; exact hx.one h.rel
  ·rw [he]
   refine hx.re (fun r hr=>by rw [bo] at hr; cases hr) (fun r hr=>by rw [bo] at hr; cases hr) fun k hk=>⟨hvk k hk,rfl⟩
  ·obtain ⟨h1,h2⟩:=xq r k hr
   rcases hc with ⟨rfl,he⟩ | ⟨o,n,rfl,he⟩ | ⟨e,c,rfl,he⟩ | ⟨e,c,o,n,rfl,he⟩ | ⟨e,c,rfl,he⟩ | ⟨e,c,o,n,rfl,he⟩<;>rw [he]
   ·obtain ⟨⟨row,bo⟩,hv⟩:=hx
    exact ⟨⟨_,hn.r2 r k row hr bo⟩,by rw [h1]; exact hv⟩
   ·obtain ⟨row,bo,hle,hs⟩:=hx
    exact ⟨_,hn.r2 r k row hr bo,hle,by rw [h1]; exact hs⟩
   ·obtain ⟨row,τ,ys,bo,hle,hs,hu⟩:=hx
    exact ⟨_,τ,ys,hn.r2 r k row hr bo,hle,hs,by rw [h2]; exact hu⟩
   ·obtain ⟨row,τ,ys,u,bo,hle,hs,hu,h5,h6⟩:=hx
    exact ⟨_,τ,ys,u,hn.r2 r k row hr bo,hle,hs,by rw [h2]; exact hu,h5,h6⟩
   ·obtain ⟨row,bo,hle,hs⟩:=hx
    exact ⟨_,hn.r2 r k row hr bo,hle,by rw [h1]; exact hs⟩
   ·obtain ⟨row,τ,ys,u,bo,hle,hs,hu,h5,h6⟩:=hx
    exact ⟨_,τ,ys,u,hn.r2 r k row hr bo,hle,hs,by rw [h2]; exact hu,h5,h6⟩
 refine ⟨γ',⟨⟨fun k cs' hk=> ?_,fun k row' hk=> ?_⟩,fun g hg=> ?_,⟨h.tmp.1,fun t av' ht=> ?_⟩,h.df,⟨h.fr.os,h.fr.tape,h.fr.output,h.fr.size,fun g hg ho=> ?_,fun g hg=> ?_⟩,fun k h1 h2=> ?_,h.i2⟩,fun r k row hr _=>xq r k hr⟩
 ·obtain ⟨cs,iW,rfl⟩:=hn.v1 k cs' hk
  obtain ⟨h1,cur,e,h2,h3⟩:=h.rel.vs k cs iW
  exact ⟨by show (γ.O (γ.vb k)).bind rb.f=_; rw [h1]; rfl,cur,e,h2,h3.map pP⟩
 ·obtain ⟨r,row,hr,bo,rfl⟩:=hn.r1 k row' hk
  obtain ⟨h1,h2⟩:=xq r k hr
  rw [h1,h2]
  refine (h.rel.rs r row bo).Pa (a:=rb) (O':=γ'.O) (k:=k) (d:=κ r) (fun _=> ?_) (hn.kk r k row hr bo) fun g o hg _=>⟨hg,rfl⟩
  show (match μ r,S.lk.r r with | some k,some _=>some (k,κ r) | _,_=>none)=_
  rw [hr,bo]
 ·show (γ.O g).bind rb.f=none
  rw [h.top g hg]; rfl
 ·obtain ⟨av,P3,rfl⟩:=hn.t1 t av' ht
  exact (h.tmp.2 t av P3).map pP hn.fu
 ·obtain ⟨h1,h2⟩:=h.fr.oO g hg ho
  refine ⟨?_,h2⟩
  show (γ.O g).bind rb.f=_
  rw [h1]
  rcases ho with ho | ho | ho<;>rw [ho]<;>rfl
 ·show (γ.O g).bind rb.f=none
  rw [h.fr.top g hg]; rfl
 ·show γ.rv (pre k)=_
  by_cases hk:∃ r,μ r=some k
  ·obtain ⟨r,hr⟩:=hk
   rw [xl r k hr,hn.i4 r k hr h1 h2]; exact h.i4 k h1 h2
  ·show γ.rv (if hk:∃ r,μ r=some k then Classical.choose hk else k)=_
   rw [dif_neg hk]; exact h.i4 k h1 h2
end Go.Soft
namespace Go.Soft
open Go
variable {X:Ctx} {m M:Lk} {γ γ':Gh} {w w':World} {ρ:Operand->Value} {S T:St} {δ δ':Dl}
theorem Ep:∀ {a b:List Nat},D9 a b=true->a=b
 | [],[],_=>rfl
 | x::l,y::m,h=>by simp only [D9,zB] at h; rw [aF h.1,Ep h.2]
 | [],_::_,h=>by simp [D9] at h
 | _::_,[],h=>by simp [D9] at h
theorem N2 {x:Cv} {sh:Sh} (h:R9 (Wa x).1 sh=true) (l:List m7):YV sh ((Wa x).2++l)=some (x,l):=by
 cases x<;>cases sh<;>simp only [Wa,R9,Bool.false_eq_true,zB] at h<;>simp only [Wa,YV,List.cons_append,List.nil_append,zA,zG,and_true]
 case nl.nl a b=>rw [Al h]
 case sw.sw=>rw [aF h]
 case sl.sl=>rw [aF h]
 case nw.nw=>rw [aF h.1,aF h.2]
 case ns.ns=>rw [aF h.1,aF h.2]
 case pv.pv=>rw [aF h.1,aF h.2]
 case pe.pe=>rw [aF h.1,aF h.2]
 case pn.pn=>rw [aF h.1,aF h.2.1,aF h.2.2]
 case fn.fn=>rw [aF h.1,Ep h.2]
theorem Ey:∀ {x:List Cv} {sh:List Sh},Tc (QC x).1 sh=true->∀ l:List m7,We sh ((QC x).2++l)=some (x,l)
 | [],[],_,l=>rfl
 | x::xs,a::b,h,l=>by
  simp only [QC,Tc,zB] at h
  simp only [QC,We,List.append_assoc,N2 h.1,Ey h.2]
 | [],_::_,h,_=>by simp [QC,Tc] at h
 | _::_,[],h,_=>by simp [QC,Tc] at h
theorem N5:∀ {x:List (Bool×List Cv)} {sh:List (Bool×List Sh)},L5 (Td x).1 sh=true->∀ l:List m7,Y1 sh ((Td x).2++l)=some (x,l)
 | [],[],_,l=>rfl
 | (t,x)::xs,(u,a)::b,h,l=>by
  simp only [Td,L5,zB] at h
  have PF:t=u:=by cases t<;>cases u<;>simp_all
  simp only [Td,Y1,List.append_assoc,Ey h.2.1,N5 h.2.2,PF]
 | [],_::_,h,_=>by simp [Td,L5] at h
 | _::_,[],h,_=>by simp [Td,L5] at h
def AV.plain:AV->Prop
 | .g .. =>False
 | _=>True
theorem Ut:∀ {x:AV} {sh:OO},x.plain->Nv (Je x).1 sh=true->∀ l:List m7,WW sh ((Je x).2++l)=some (x,l)
 | .c x,.c a,_,h,l=>by simp only [Je,Nv] at h; simp only [Je,WW,N2 h]
 | .a x,.a a,_,h,l=>by simp only [Je,Nv] at h; simp only [Je,WW,Ey h]
 | .t x,.t a,_,h,l=>by simp only [Je,Nv] at h; simp only [Je,WW,N5 h]
 | .g ..,_,hp,_,_=>hp.elim
 | .c x,.a _,_,h,_=>by simp [Je,Nv] at h
 | .c x,.t _,_,h,_=>by simp [Je,Nv] at h
 | .a x,.c _,_,h,_=>by simp [Je,Nv] at h
 | .a x,.t _,_,h,_=>by simp [Je,Nv] at h
 | .t x,.c _,_,h,_=>by simp [Je,Nv] at h
 | .t x,.a _,_,h,_=>by simp [Je,Nv] at h
def Qz (l:List (Nat×AV)):Prop:=∀ p∈l,p.2.plain
theorem Kz:∀ {x:List (Nat×AV)} {sh:List (Nat×OO)},Qz x->MD (G4 x).1 sh=true->∀ l:List m7,Sq sh ((G4 x).2++l)=some (x,l)
 | [],[],_,_,l=>rfl
 | (t,x)::xs,(u,a)::b,hp,h,l=>by
  simp only [G4,MD,zB] at h
  have PF:=aF h.1
  simp only [G4,Sq,List.append_assoc,Ut (hp _ zO) h.2.1,Kz (fun p hm=>hp p (zJ _ hm)) h.2.2,PF]
 | [],_::_,_,h,_=>by simp [G4,MD] at h
 | _::_,[],_,h,_=>by simp [G4,MD] at h
theorem KH:∀ {x:List (Nat×List Cv)} {sh:List (Nat×List Sh)},My (G6 x).1 sh=true->∀ l:List m7,QV sh ((G6 x).2++l)=some (x,l)
 | [],[],_,l=>rfl
 | (t,x)::xs,(u,a)::b,h,l=>by
  simp only [G6,My,zB] at h
  have PF:=aF h.1
  simp only [G6,QV,List.append_assoc,Ey h.2.1,KH h.2.2,PF]
 | [],_::_,h,_=>by simp [G6,My] at h
 | _::_,[],h,_=>by simp [G6,My] at h
def se:List (Nat×Row)->List (Nat×(Ty×Nat))->List (Nat×Row)
 | (k,row)::l,(_,(_,d))::m=>(k,{ row with ow:=d })::se l m
 | _,_=>[]
theorem JQ:∀ {x:List (Nat×Row)} {sh:List (Nat×(Ty×Nat))},xB (vj x).1 sh=true->Rf sh (vj x).2=some (se x sh)
 | [],[],_=>rfl
 | (t,x)::xs,(u,(a,d))::b,h=>by
  simp only [vj,xB,zB] at h
  have PF:=aF h.1
  simp only [vj,Rf,JQ h.2.2.2,se,PF]
 | [],_::_,h=>by simp [vj,xB] at h
 | _::_,[],h=>by simp [vj,xB] at h
def Eb (sh:List (Nat×(Ty×Nat))) (r:Nat):Nat:=match lk sh r with | some (_,d)=>d | none=>0
theorem G0:∀ {x:List (Nat×Row)} {sh:List (Nat×(Ty×Nat))},xB (vj x).1 sh=true->∀ k,lk (se x sh) k=(lk x k).map fun row=>{ row with ow:=Eb sh k }
 | [],[],_,k=>rfl
 | (t,x)::xs,(u,(a,d))::b,h,k=>by
  simp only [vj,xB,zB] at h
  have PF:=aF h.1
  subst PF
  have ih:=G0 h.2.2.2 k
  simp only [se,lk,Eb]
  cases hk:Nat.beq t k with
  | true=>rfl
  | false=>simp only; rw [ih]; rfl
 | [],_::_,h,_=>by simp [vj,xB] at h
 | _::_,[],h,_=>by simp [vj,xB] at h
theorem Jb:∀ {x:List (Nat×Row)} {sh:List (Nat×(Ty×Nat))},xB (vj x).1 sh=true->∀ k row,lk x k=some row->nO (Eb sh k) row.ow=true/\(Eb sh k=1->row.ow=1\/k<100000\/400000<=k)
 | [],_,_,k,row,h=>by cases h
 | (t,x)::xs,(u,(a,d))::b,h,k,row,hk=>by
  simp only [vj,xB,zB] at h
  have PF:=aF h.1
  subst PF
  simp only [lk] at hk
  simp only [Eb,lk]
  cases hkt:Nat.beq t k with
  | true =>
   simp only [hkt,zA] at hk
   have:=aF hkt; subst this; subst hk
   obtain ⟨h1,h2,⟨h3,h4⟩,h5⟩:=h
   refine ⟨h3,fun hd=> ?_⟩
   have hd:d=1:=hd
   subst hd
   simp only [Bool.or_eq_true] at h4
   rcases h4 with h4 | h4 | h4
   ·exact .inl (aF h4)
   ·exact .inr (.inl (by have:=zQ h4; omega))
   ·exact .inr (.inr (zQ h4))
  | false =>
   simp only [hkt] at hk
   have:=Jb h.2.2.2 k row hk
   simpa [Eb] using this
 | (_,_)::_,[],h,_,_,_=>by simp [vj,xB] at h
theorem Mo {sk:Sk} (hg:Qz S.tm) (h:GN (flat S).1 sk=true):AF sk (flat S).2=some ⟨S.tm,S.vs,se S.rs sk.rs⟩:=by
 simp only [flat,GN,zB] at h
 simp only [flat,AF,Kz hg h.1,KH h.2.1,JQ h.2.2]
theorem Ld {sk:Sk} (h:GN (flat S).1 sk=true) {e0:Lk} {γ0:Gh} {w0:World} {a:Act} (hI:Inv X e0 γ0 w0 S γ a w):∃ γ',Inv X e0 γ0 w0 ⟨S.tm,S.vs,se S.rs sk.rs⟩ γ' a w:=by
 simp only [flat,GN,zB] at h
 have hr:∀ k,(St.mk S.tm S.vs (se S.rs sk.rs)).lk.r k=(S.lk.r k).map fun row=>{ row with ow:=Eb sk.rs k }:=fun k=>G0 h.2.2 k
 have hn:WY S ⟨S.tm,S.vs,se S.rs sk.rs⟩ some (Eb sk.rs) id:=by
  refine ⟨fun r r' k h1 h2=>by cases h1; cases h2; rfl,fun k row' hk=> ?_,fun r k row h1 h2=> ?_,fun r k row h1 h2=> .inl (Jb h.2.2 r row h2).1,fun k cs' hk=>⟨cs',hk,by simp⟩,
   fun t av' ht=>⟨av',ht,(zx (fun _=>rfl) _).symm⟩,rfl,fun x=> ?_,fun r k h _ _=>by cases h; rfl⟩
  ·rw [hr] at hk
   cases hl:S.lk.r k with
   | none=>rw [hl] at hk; cases hk
   | some row=>rw [hl] at hk; cases hk; exact ⟨k,row,rfl,hl,rfl⟩
  ·cases h1; rw [hr,h2]; rfl
  ·cases x with
   | sw r=>exact .inr (.inr ⟨r,r,rfl,.inl ⟨rfl,rfl⟩⟩)
   | sl r o n=>exact .inr (.inr ⟨r,r,rfl,.inr (.inl ⟨o,n,rfl,rfl⟩)⟩)
   | nw r o n=>exact .inr (.inr ⟨r,r,rfl,.inr (.inr (.inl ⟨o,n,rfl,rfl⟩))⟩)
   | ns r e c o n=>exact .inr (.inr ⟨r,r,rfl,.inr (.inr (.inr (.inl ⟨e,c,o,n,rfl,rfl⟩)))⟩)
   | pe r o n=>exact .inr (.inr ⟨r,r,rfl,.inr (.inr (.inr (.inr (.inl ⟨o,n,rfl,rfl⟩))))⟩)
   | pn r e c o n=>exact .inr (.inr ⟨r,r,rfl,.inr (.inr (.inr (.inr (.inr ⟨e,c,o,n,rfl,rfl⟩))))⟩)
   | _=>exact .inr (.inl ⟨rfl,rfl,fun k _ cs iW=>⟨cs,iW⟩⟩)
 obtain ⟨γ',h1,h2⟩:=hn.ok hI.R0
 refine ⟨γ',h1.inv fun k row' vN rW CY MU=> ?_⟩
 rw [hr] at CY
 cases hl:S.lk.r k with
 | none=>rw [hl] at CY; cases CY
 | some row =>
  rw [hl] at CY; cases CY
  have MU:Eb sk.rs k=1:=MU
  have h5:row.ow=1:=by
   rcases (Jb h.2.2 k row hl).2 MU with h | h | h
   ·exact h
   ·omega
   ·omega
  obtain ⟨i1,i2,i3⟩:=hI.i3 k row vN rW hl h5
  obtain ⟨j1,j2⟩:=h2 k k row rfl hl
  exact ⟨by rw [i1,MU,← h5],by rw [j1,i2],by rw [j2,i3]⟩
theorem J7 (a:Nat):nO a a=true\/(a=a/\eu a=false/\a≠3):=by
 rcases a with _|_|_|_|_|_|a
 ·exact .inr ⟨rfl,rfl,by omega⟩
 ·exact .inl rfl
 ·exact .inl rfl
 ·exact .inl rfl
 ·exact .inl rfl
 ·exact .inl rfl
 ·exact .inr ⟨rfl,rfl,by omega⟩
def ya (fz:List Nat) (k:Nat) (row:Row):Bool:=match cd k fz&&(Nat.ble 1 row.ow&&Nat.ble row.ow 5),Nat.ble 300000 k&&(Nat.ble k 399999&&Nat.beq row.ow 2) with
 | true,false=>true
 | _,_=>false
theorem Dw (fz:List Nat):∀ (l:List (Nat×Row)) (k:Nat),lk (freeze fz l) k=(lk l k).map fun row=>bif ya fz k row then { row with ow:=OP row.ow } else row
 | [],k=>rfl
 | (j,row)::l,k=>by
  have ih:=Dw fz l k
  have:freeze fz ((j,row)::l)=(j,bif ya fz j row then { row with ow:=OP row.ow } else row)::freeze fz l:=by
   simp only [freeze,ya]
   generalize (cd j fz&&(Nat.ble 1 row.ow&&Nat.ble row.ow 5))=b1
   generalize (Nat.ble 300000 j&&(Nat.ble j 399999&&Nat.beq row.ow 2))=b2
   cases b1<;>cases b2<;>rfl
  rw [this]
  simp only [lk,ih]
  cases hj:Nat.beq j k with
  | true=>have:=aF hj; subst this; rfl
  | false=>rfl
theorem Uo {a:Nat} (h1:1<=a) (h2:a<=5):nO (OP a) a=true:=by
 rcases a with _|_|_|_|_|_|a
 ·omega
 ·rfl
 ·rfl
 ·rfl
 ·rfl
 ·rfl
 ·omega
theorem UB {f:Cv->Cv} (hf:∀ x,f x=x) {μ:Nat->Option Nat} (hμ:∀ r,μ r=some r) (hv:∀ k cs,S.lk.v k=some cs->∃ cs',T.lk.v k=some cs') (x:Cv) :
  f x= .un\/(f x=x/\x.row=none/\∀ k∈x.vk,∀ cs,S.lk.v k=some cs->∃ cs',T.lk.v k=some cs')\/∃ r k,μ r=some k /\
  ((x= .sw r/\f x= .sw k)\/(∃ o n,x= .sl r o n/\f x= .sl k o n)\/(∃ e c,x= .nw r e c/\f x= .nw k e c)\/(∃ e c o n,x= .ns r e c o n/\f x= .ns k e c o n) \/
   (∃ e c,x= .pe r e c/\f x= .pe k e c)\/∃ e c o n,x= .pn r e c o n/\f x= .pn k e c o n):=by
 have h:=hf x
 cases x with
 | sw r=>exact .inr (.inr ⟨r,r,hμ r,.inl ⟨rfl,h⟩⟩)
 | sl r o n=>exact .inr (.inr ⟨r,r,hμ r,.inr (.inl ⟨o,n,rfl,h⟩)⟩)
 | nw r o n=>exact .inr (.inr ⟨r,r,hμ r,.inr (.inr (.inl ⟨o,n,rfl,h⟩))⟩)
 | ns r e c o n=>exact .inr (.inr ⟨r,r,hμ r,.inr (.inr (.inr (.inl ⟨e,c,o,n,rfl,h⟩)))⟩)
 | pe r o n=>exact .inr (.inr ⟨r,r,hμ r,.inr (.inr (.inr (.inr (.inl ⟨o,n,rfl,h⟩))))⟩)
 | pn r e c o n=>exact .inr (.inr ⟨r,r,hμ r,.inr (.inr (.inr (.inr (.inr ⟨e,c,o,n,rfl,h⟩))))⟩)
 | _=>exact .inr (.inl ⟨h,rfl,fun k _ cs iW=>hv k cs iW⟩)
def Z2 (e0:Lk) (γ0:Gh) (S:St) (γ:Gh):Prop:=∀ k row,300000<=k->k<400000->S.lk.r k=some row->row.ow=1->e0.r k=some row/\γ.rv k=γ0.rv k/\γ.cv k=γ0.cv k
theorem Mn {e0:Lk} {γ0:Gh} {w0:World} {a:Act} (fz:List Nat) (hI:Inv X e0 γ0 w0 S γ a w):∃ γ',Bq X γ0 w0 (S.freeze fz) γ' a w/\Z2 e0 γ0 (S.freeze fz) γ':=by
 have done:∃ γ',Bq X γ0 w0 S γ' a w/\Z2 e0 γ0 S γ':=⟨γ,hI.R0,fun k row h1 h2=>hI.i3 k row (by omega) h2⟩
 cases XV:fz with
 | nil=>exact done
 | cons t l =>
  simp only [St.freeze]
  generalize I7 (rP S.get (t::l))=ks
  let T:St:=⟨S.tm,S.vs,Soft.freeze ks S.rs⟩
  have hr:∀ k,T.lk.r k=(S.lk.r k).map fun row=>bif ya ks k row then { row with ow:=OP row.ow } else row:=fun k=>Dw ks S.rs k
  let κ:Nat->Nat:=fun r=>match S.lk.r r with | some row=>(bif ya ks r row then OP row.ow else row.ow) | none=>0
  have hκ:∀ r row,S.lk.r r=some row->κ r=bif ya ks r row then OP row.ow else row.ow:=by
   intro r row hr
   show (match S.lk.r r with | some row=>(bif ya ks r row then OP row.ow else row.ow) | none=>0)=_
   rw [hr]
  have bo:∀ r row,S.lk.r r=some row->(bif ya ks r row then { row with ow:=OP row.ow } else row)={ row with ow:=κ r }:=by
   intro r row hr
   rw [hκ r row hr]
   cases ya ks r row<;>rfl
  have hn:WY S T some κ id:=by
   refine ⟨fun r r' k h1 h2=>by cases h1; cases h2; rfl,fun k row' hk=> ?_,fun r k row h1 h2=> ?_,fun r k row h1 h2=> ?_,fun k cs' hk=>⟨cs',hk,by simp⟩,
    fun t av' ht=>⟨av',ht,(zx (fun _=>rfl) _).symm⟩,rfl,UB (fun _=>rfl) (fun _=>rfl) fun k cs h=>⟨cs,h⟩,fun r k h _ _=>by cases h; rfl⟩
   ·rw [hr] at hk
    cases hl:S.lk.r k with
    | none=>rw [hl] at hk; cases hk
    | some row=>rw [hl] at hk; cases hk; exact ⟨k,row,rfl,hl,bo k row hl⟩
   ·cases h1; rw [hr,h2]; exact congrArg some (bo r row h2)
   ·rw [hκ r row h2]
    cases hf:ya ks r row with
    | false=>exact J7 row.ow
    | true =>
     refine .inl ?_
     simp only [ya] at hf
     revert hf; split
     ·rename_i h1 _
      intro _
      simp only [zB] at h1
      exact Uo (zQ h1.2.1) (zQ h1.2.2)
     ·intro h; cases h
  obtain ⟨γ',h1,h2⟩:=hn.ok hI.R0
  refine ⟨γ',h1,fun k row' vN rW CY MU=> ?_⟩
  have CY:T.lk.r k=some row':=CY
  rw [hr] at CY
  cases hl:S.lk.r k with
  | none=>rw [hl] at CY; cases CY
  | some row =>
   rw [hl] at CY
   simp only [Option.map_some,zA] at CY
   have h5:row.ow=1/\row'=row:=by
    cases hf:ya ks k row with
    | false=>rw [hf] at CY; simp only [zF] at CY; subst CY; exact ⟨MU,rfl⟩
    | true =>
     rw [hf] at CY; simp only [zE] at CY
     subst CY
     have MU:OP row.ow=1:=MU
     have h12:row.ow=1\/row.ow=2:=by
      revert MU; simp only [OP]; split
      ·exact fun _=> .inl (by assumption)
      ·exact fun _=> .inr (by assumption)
      ·intro h; cases h
     rcases h12 with h | h
     ·refine ⟨h,?_⟩
      obtain ⟨τ,xs,ow⟩:=row
      simp only at h; subst h; rfl
     ·exfalso
      simp only [ya] at hf
      have:(Nat.ble 300000 k&&(Nat.ble k 399999&&Nat.beq row.ow 2))=true:=by
       rw [h]; simp only [zB]
       exact ⟨Nat.ble_eq_true_of_le vN,Nat.ble_eq_true_of_le (by omega),rfl⟩
      rw [this] at hf
      revert hf
      cases (cd k ks&&(Nat.ble 1 row.ow&&Nat.ble row.ow 5))<;>simp
   obtain ⟨h5,rfl⟩:=h5
   obtain ⟨i1,i2,i3⟩:=hI.i3 k row' (by omega) rW hl h5
   obtain ⟨j1,j2⟩:=h2 k k row' rfl hl
   exact ⟨i1,by rw [j1,i2],by rw [j2,i3]⟩
inductive De (X:Ctx) (O:OM) (w:World):List (Nat×Row)->List (Nat×(Value×List Value))->Prop
 | nil:De X O w [] []
 | cons {k:Nat} {row:Row} {v:Value} {cs:List Value} {rs:List (Nat×Row)} {V:List (Nat×(Value×List Value))}:cS X O w k row v cs->De X O w rs V->De X O w ((k,row)::rs) ((k,(v,cs))::V)
theorem De.append {O:OM} {rs rs':List (Nat×Row)} {V V':List (Nat×(Value×List Value))} (h:De X O w rs V) (h':De X O w rs' V'):De X O w (rs++rs') (V++V'):=by
 induction h with
 | nil=>exact h'
 | cons hr _ ih=>exact .cons hr ih
theorem De.keys {O:OM} {rs:List (Nat×Row)} {V:List (Nat×(Value×List Value))} (h:De X O w rs V):keys V=Soft.keys rs:=by
 induction h with
 | nil=>rfl
 | cons _ _ ih=>simp [Soft.keys,ih]
theorem De.get {O:OM} {rs:List (Nat×Row)} {V:List (Nat×(Value×List Value))} (h:De X O w rs V):∀ k row,lk rs k=some row->∃ vc,lk V k=some vc/\cS X O w k row vc.1 vc.2:=by
 induction h with
 | nil=>intro k row h; cases h
 | cons hr _ ih =>
  rename_i j _ v cs _ _ _
  intro k row hk
  simp only [lk] at hk ⊢
  cases hj:Nat.beq j k with
  | true =>
   simp only [hj,zA] at hk ⊢
   have:=aF hj; subst this; subst hk
   exact ⟨_,rfl,hr⟩
  | false=>simp only [hj] at hk ⊢; exact ih k row hk
structure Ag (m:Lk) (γ:Gh) (rs:List (Nat×Row)) (V:List (Nat×(Value×List Value))) (m1:Lk) (γ1:Gh):Prop where
 r:∀ r row,m.r r=some row->m1.r r=some row/\γ1.rv r=γ.rv r/\γ1.cv r=γ.cv r
 v:∀ k cs,m.v k=some cs->∃ cs',m1.v k=some cs'
 vb:γ1.vb=γ.vb
 n:∀ k row,(k,row)∈rs->m1.r k=some row
 g:∀ k vc,(k,vc)∈V->γ1.rv k=vc.1/\γ1.cv k=vc.2
variable {m1:Lk} {γ1:Gh} {rs rs':List (Nat×Row)} {V V':List (Nat×(Value×List Value))}
theorem Ag.left (h:Ag m γ (rs++rs') (V++V') m1 γ1):Ag m γ rs V m1 γ1:=⟨h.r,h.v,h.vb,fun k row hm=>h.n k row (List.mem_append_left _ hm),fun k vc hm=>h.g k vc (List.mem_append_left _ hm)⟩
theorem Ag.right (h:Ag m γ (rs++rs') (V++V') m1 γ1):Ag m γ rs' V' m1 γ1:=⟨h.r,h.v,h.vb,fun k row hm=>h.n k row (List.mem_append_right _ hm),fun k vc hm=>h.g k vc (List.mem_append_right _ hm)⟩
theorem Ag.rX (h:Ag m γ rs V m1 γ1) {x:Cv} {v:Value} (hx:bp m γ x v):bp m1 γ1 x v :=
 hx.re (fun r _=>⟨fun row hr=>⟨row,(h.r r row hr).1,rfl,Nat.le_refl _⟩,by
  cases zm:m.r r with
  | some row=>exact (h.r r row zm).2.1
  | none =>
   exfalso
   rename_i bo
   revert hx
   cases x<;>simp only [Cv.row,zA,reduceCtorEq] at bo<;>subst bo<;>simp [bp,zm]⟩)
  (fun r _ _=>⟨fun row row' h1 h2 e c τ ys he hc=>by
   have h3:=h.r r row h1
   rw [h3.1] at h2; cases h2
   exact ⟨⟨ys,hc,Nat.le_refl _⟩,by rw [h3.2.2]⟩⟩) fun k _=>⟨fun cs iW=>h.v k cs iW,by rw [h.vb]⟩
theorem Ag.ZG (h:Ag m γ rs V m1 γ1) {x:AV} {v:Value} (hx:bn m γ x v):bn m1 γ1 x v:=by
 have:=bn.map (f:=id) (fun x v hx=>h.rX hx) rfl hx
 rwa [zx (f:=id) (fun _=>rfl)] at this
theorem Pd (hR:Rel X m γ w) {x y:Cv} {v:Value} {k:Nat} {rs:List (Nat×Row)} (hx:bp m γ x v) (h:m.LN k x=(y,rs)) :
  ∃ V,De X γ.O w rs V/\∀ m1 γ1,Ag m γ rs V m1 γ1->bp m1 γ1 y v:=by
 have same:∀ {y:Cv} {rs:List (Nat×Row)},(x,[])=(y,rs)->∃ V,De X γ.O w rs V/\∀ m1 γ1,Ag m γ rs V m1 γ1->bp m1 γ1 y v:=by
  intro y rs h
  cases h
  exact ⟨[],.nil,fun m1 γ1 ha=>ha.rX hx⟩
 have new:∀ {row:Row} {cs:List Value} {y:Cv} {rs:List (Nat×Row)},cS X γ.O w k row v cs->(Cv.sw k,[(k,row)])=(y,rs)->∃ V,De X γ.O w rs V/\∀ m1 γ1,Ag m γ rs V m1 γ1->bp m1 γ1 y v:=by
  intro row cs y rs hr h
  cases h
  exact ⟨[(k,(v,cs))],.cons hr .nil,fun m1 γ1 ha=>⟨⟨row,ha.n k row (by simp)⟩,(ha.g k (v,cs) (by simp)).1.symm⟩⟩
 have mW:∀ {τ:Ty} {ys:List (El τ)},m.L2 x=true->(∃ r,x.row=some r)->(m.vw x).ct=some (.l τ ys)->∃ cs,cS X γ.O w k ⟨τ,ys,match x.row with | some r=>(match m.r r with | some row=>row.ow | none=>1) | none=>1⟩ v cs:=by
  intro τ ys hi bo hc
  obtain ⟨r,bo⟩:=bo
  simp only [Lk.L2,bo] at hi ⊢
  cases hr:m.r r with
  | none=>simp [hr] at hi
  | some row =>
   simp only [hr] at hi ⊢
   revert hi; split
   ·rename_i h1
    intro _
    obtain ⟨cs,hv⟩:=EH (Le.refl m) hR hx (A:=fun g=>In .mW (γ.O g)) (fun r' row' g cy zm hi=>by
     rw [bo] at zm; cases zm
     rw [hr] at cy; cases cy
     rw [h1] at hi
     rcases hi with hi | ⟨_,_,hi⟩<;>exact hi) hc
    rw [h1]; exact ⟨cs,hv.Ix⟩
   ·rename_i h1
    intro _
    obtain ⟨cs,hv⟩:=EH (Le.refl m) hR hx (A:=fun g=>In .fz (γ.O g)) (fun r' row' g cy zm hi=>by
     rw [bo] at zm; cases zm
     rw [hr] at cy; cases cy
     rw [h1] at hi
     rcases hi with hi | ⟨_,_,hi⟩<;>exact hi) hc
    rw [h1]; exact ⟨cs,hv.WD⟩
   ·intro h; cases h
 cases x with
 | nl τ =>
  simp only [Lk.LN] at h
  have hv:v= .slice none 0 0:=hx
  exact new (by rw [hv]; exact cS.nil X γ.O w k τ 5) h
 | sw r =>
  simp only [Lk.LN] at h
  cases hr:m.r r with
  | none=>simp only [hr] at h; exact same h
  | some row =>
   simp only [hr] at h
   have bo:=hR.rs r row hr
   obtain ⟨_,hv⟩:=hx
   have Tx:row.ow=1\/row.ow=3->cS X γ.O w k row v (γ.cv r):=by
    intro ho
    rw [hv]
    have:=bo.re (k':=k) (dL:=row.ow) (w':=w) (O':=γ.O) (by rcases ho with ho | ho<;>rw [ho]<;>rfl) (fun g o hg hi=>⟨hg,by rcases ho with ho | ho<;>rw [ho] at hi ⊢<;>exact hi⟩)
     (fun e c g o hg hi=>⟨hg,by rcases ho with ho | ho<;>rw [ho] at hi ⊢<;>exact hi⟩)
    exact this
   revert h; split
   ·rename_i h1; exact fun h=>new (Tx (.inl h1)) h
   ·rename_i h1; exact fun h=>new (Tx (.inr h1)) h
   ·exact fun h=>same h
 | sl r o n =>
  simp only [Lk.LN] at h
  revert h; split
  ·rename_i hi hc
   intro h
   obtain ⟨cs,hr⟩:=mW hi ⟨r,rfl⟩ hc
   exact new hr h
  ·exact fun h=>same h
 | nw r o n =>
  simp only [Lk.LN] at h
  revert h; split
  ·rename_i hi hc
   intro h
   obtain ⟨cs,hr⟩:=mW hi ⟨r,rfl⟩ hc
   exact new hr h
  ·exact fun h=>same h
 | ns r e c o n =>
  simp only [Lk.LN] at h
  revert h; split
  ·rename_i hi hc
   intro h
   obtain ⟨cs,hr⟩:=mW hi ⟨r,rfl⟩ hc
   exact new hr h
  ·exact fun h=>same h
 | _=>exact same h
theorem IQ (hR:Rel X m γ w):∀ {x y:List Cv} {v:List Value} {k:Nat} {rs:List (Nat×Row)},b9 m γ x v->m.NS k x=(y,rs) ->
  ∃ V,De X γ.O w rs V/\∀ m1 γ1,Ag m γ rs V m1 γ1->b9 m1 γ1 y v
 | [],y,v,k,rs,hx,h=>by cases hx; cases h; exact ⟨[],.nil,fun _ _ _=> .nil⟩
 | x::l,y,v,k,rs,hx,h=>by
  cases hx with
  | cons hx hl =>
   simp only [Lk.NS] at h
   cases h1:m.LN k x with
   | mk a ra =>
    cases h2:m.NS (k+1) l with
    | mk b rb =>
     simp only [h1,h2] at h; cases h
     obtain ⟨V,HO,MV⟩:=Pd hR hx h1
     obtain ⟨V',VH,YJ⟩:=IQ hR hl h2
     exact ⟨V++V',HO.append VH,fun m1 γ1 ha=> .cons (MV m1 γ1 ha.left) (YJ m1 γ1 ha.right)⟩
theorem JS (hR:Rel X m γ w) {VT:Nat->Value}:∀ {x y:List (Nat×AV)} {k:Nat} {rs:List (Nat×Row)},(∀ p∈x,bn m γ p.2 (VT p.1))->m.ov k x=(y,rs) ->
  ∃ V,De X γ.O w rs V/\∀ m1 γ1,Ag m γ rs V m1 γ1->∀ p∈y,bn m1 γ1 p.2 (VT p.1)
 | [],y,k,rs,hx,h=>by cases h; exact ⟨[],.nil,fun _ _ _ p hp=>by cases hp⟩
 | (t,av)::l,y,k,rs,hx,h=>by
  have hl:∀ p∈l,bn m γ p.2 (VT p.1):=fun p hp=>hx p (zJ _ hp)
  have h0:bn m γ av (VT t):=hx (t,av) zO
  have rest:∀ {b:AV} {rb:List (Nat×Row)} {V:List (Nat×(Value×List Value))} {y:List (Nat×AV)} {rs:List (Nat×Row)},De X γ.O w rb V->(∀ m1 γ1,Ag m γ rb V m1 γ1->bn m1 γ1 b (VT t)) ->
    (match m.ov (k+64) l with | (n,rs)=>((t,b)::n,rb++rs))=(y,rs)->∃ V,De X γ.O w rs V/\∀ m1 γ1,Ag m γ rs V m1 γ1->∀ p∈y,bn m1 γ1 p.2 (VT p.1):=by
   intro b rb V y rs HO MV h
   cases h2:m.ov (k+64) l with
   | mk n rc =>
    simp only [h2] at h; cases h
    obtain ⟨V',VH,YJ⟩:=JS hR hl h2
    refine ⟨V++V',HO.append VH,fun m1 γ1 ha p hp=> ?_⟩
    rcases zI.1 hp with rfl | hp
    ·exact MV m1 γ1 ha.left
    ·exact YJ m1 γ1 ha.right p hp
  have other:∀ {y:List (Nat×AV)} {rs:List (Nat×Row)},(match m.ov (k+64) l with | (n,rs)=>((t,av)::n,rs))=(y,rs)->∃ V,De X γ.O w rs V/\∀ m1 γ1,Ag m γ rs V m1 γ1->∀ p∈y,bn m1 γ1 p.2 (VT p.1):=by
   intro y rs h
   refine rest (b:=av) (rb:=[]) (V:=[]) .nil (fun m1 γ1 ha=>ha.ZG h0) ?_
   cases h2:m.ov (k+64) l with
   | mk n rc=>simp only [h2] at h ⊢; exact h
  cases av with
  | c x =>
   simp only [Lk.ov] at h
   cases h1:m.LN k x with
   | mk a ra =>
    simp only [h1] at h
    by_cases hu:x= .un
    ·subst hu
     simp only [Lk.LN,zG] at h1
     obtain ⟨rfl,rfl⟩:=h1
     exact rest (b:= .c .un) (V:=[]) .nil (fun _ _ _=>trivial) h
    ·obtain ⟨V,HO,MV⟩:=Pd hR (bn.to h0 hu) h1
     exact rest (b:= .c a) HO (fun m1 γ1 ha=>bn.of (MV m1 γ1 ha)) h
  | a x =>
   simp only [Lk.ov] at h
   cases h1:m.NS k x with
   | mk a ra =>
    simp only [h1] at h
    obtain ⟨us,Sz,yw⟩:=h0
    obtain ⟨V,HO,MV⟩:=IQ hR yw h1
    exact rest (b:= .a a) HO (fun m1 γ1 ha=>⟨us,Sz,MV m1 γ1 ha⟩) h
  | t x=>exact other h
  | g p q x=>exact other h
theorem Kf (hR:Rel X m γ w) {H:Nat->List Value->Prop}:∀ {x y:List (Nat×List Cv)} {k:Nat} {rs:List (Nat×Row)},(∀ p∈x,∃ u,H p.1 u/\b9 m γ p.2 u)->m.EE k x=(y,rs) ->
  ∃ V,De X γ.O w rs V/\keys y=keys x/\∀ m1 γ1,Ag m γ rs V m1 γ1->∀ p∈y,∃ u,H p.1 u/\b9 m1 γ1 p.2 u
 | [],y,k,rs,hx,h=>by cases h; exact ⟨[],.nil,rfl,fun _ _ _ p hp=>by cases hp⟩
 | (t,cs)::l,y,k,rs,hx,h=>by
  simp only [Lk.EE] at h
  cases h1:m.NS k cs with
  | mk a ra =>
   cases h2:m.EE (k+64) l with
   | mk n rc =>
    simp only [h1,h2] at h; cases h
    obtain ⟨u,hu,hr⟩:=hx (t,cs) zO
    obtain ⟨V,HO,MV⟩:=IQ hR hr h1
    obtain ⟨V',VH,hk,YJ⟩:=Kf hR (fun p hp=>hx p (zJ _ hp)) h2
    refine ⟨V++V',HO.append VH,by simp [keys,hk],fun m1 γ1 ha p hp=> ?_⟩
    rcases zI.1 hp with rfl | hp
    ·exact ⟨u,hu,MV m1 γ1 ha.left⟩
    ·exact YJ m1 γ1 ha.right p hp
theorem Hj (k:Nat) (x:Cv):∀ j∈keys (m.LN k x).2,j=k:=by
 intro j hj
 revert hj
 simp only [Lk.LN]
 repeat' split
 all_goals simp [keys]
theorem BS:∀ (x:List Cv) (k:Nat),∀ j∈keys (m.NS k x).2,k<=j
 | [],k,j,h=>by simp [Lk.NS,keys] at h
 | x::l,k,j,h=>by
  have h1:=Hj (m:=m) k x
  have h2:=BS l (k+1)
  simp only [Lk.NS,bx,zH] at h
  rcases h with h | h
  ·have:=h1 j h; omega
  ·have:=h2 j h; omega
theorem C3:∀ (x:List (Nat×AV)) (k:Nat),∀ j∈keys (m.ov k x).2,k<=j
 | [],k,j,h=>by simp [Lk.ov,keys] at h
 | (t,av)::l,k,j,h=>by
  have h2:=C3 l (k+64)
  cases av with
  | c x =>
   simp only [Lk.ov,bx,zH] at h
   rcases h with h | h
   ·have:=Hj k x j h; omega
   ·have:=h2 j h; omega
  | a x =>
   simp only [Lk.ov,bx,zH] at h
   rcases h with h | h
   ·exact BS x k j h
   ·have:=h2 j h; omega
  | t x=>simp only [Lk.ov] at h; have:=h2 j h; omega
  | g p q x=>simp only [Lk.ov] at h; have:=h2 j h; omega
theorem Dh:∀ (x:List (Nat×List Cv)) (k:Nat),∀ j∈keys (m.EE k x).2,k<=j
 | [],k,j,h=>by simp [Lk.EE,keys] at h
 | (t,cs)::l,k,j,h=>by
  have h2:=Dh l (k+64)
  simp only [Lk.EE,bx,zH] at h
  rcases h with h | h
  ·exact BS cs k j h
  ·have:=h2 j h; omega
end Go.Soft
namespace Go.Soft
open Go
variable {X:Ctx} {m M:Lk} {γ γ':Gh} {w w':World} {ρ:Operand->Value} {S T:St} {δ δ':Dl}
theorem Db {s:St} {t:Nat} {av:AV}:∀ {l:List Nat},(t,av)∈Da s l->av=uS (s.get t)
 | [],h=>by cases h
 | x::l,h=>by
  rcases zI.1 h with h | h
  ·cases h; rfl
  ·exact Db h
theorem uX {vs:List (Nat×List Cv)} {k:Nat} {cs:List Cv}:∀ {l:List Nat},(k,cs)∈u5 vs l->lk vs k=some cs
 | [],h=>by cases h
 | x::l,h=>by
  simp only [u5] at h
  cases hx:lk vs x with
  | none=>rw [hx] at h; exact uX h
  | some c =>
   rw [hx] at h
   rcases zI.1 h with h | h
   ·cases h; exact hx
   ·exact uX h
theorem BC {v:Nat}:∀ {l:List Nat} {i j:Nat},mZ v i l=some j->v∈l
 | [],i,j,h=>by cases h
 | x::l,i,j,h=>by
  simp only [mZ] at h
  cases hx:Nat.beq x v with
  | true=>rw [aF hx]; exact zO
  | false=>rw [hx] at h; exact zJ _ (BC h)
theorem tN {α:Type} (a b:List (Nat×α)) (k:Nat):lk (a++b) k=match lk a k with | some v=>some v | none=>lk b k:=by
 induction a with
 | nil=>rfl
 | cons p a ih =>
  obtain ⟨j,v⟩:=p
  simp only [List.cons_append,lk,ih]
  cases Nat.beq j k<;>rfl
theorem lg:∀ {l:List Cv} {acc:List Nat},acc.Nodup->(oH l acc).Nodup
 | [],acc,h=>h
 | x::l,acc,h=>by
  simp only [oH]
  cases x.row with
  | none=>exact lg h
  | some r =>
   simp only
   cases hi:mZ r 0 acc with
   | some _=>exact lg h
   | none=>exact lg (List.nodup_append.2 ⟨h,by simp,fun a ha b hb=>by simp at hb; subst hb; intro e; subst e; exact ub hi ha⟩)
theorem Dv {m:List Nat}:∀ {l:List Nat},As l m=true->∀ x∈l,x∈m
 | [],_,x,hx=>by cases hx
 | y::l,h,x,hx=>by
  simp only [As] at h
  cases hi:mZ y 0 m with
  | none=>rw [hi] at h; cases h
  | some j =>
   rw [hi] at h
   rcases zI.1 hx with rfl | hx
   ·exact BC hi
   ·exact Dv h x hx
theorem tw {rs:List (Nat×Row)}:∀ {l:List Nat} {k r v:Nat},(r,v)∈p4 rs k l->r∈l/\∃ row,lk rs r=some row/\((uP r row=true/\v=r)\/(uP r row=false/\∃ i,k<=i/\v=500000+i))
 | [],k,r,v,h=>by cases h
 | x::l,k,r,v,h=>by
  simp only [p4] at h
  cases hx:lk rs x with
  | none =>
   rw [hx] at h
   obtain ⟨h1,row,h2,h3⟩:=tw h
   refine ⟨zJ _ h1,row,h2,h3.imp id fun ⟨h4,i,h5,h6⟩=>⟨h4,i,by omega,h6⟩⟩
  | some row =>
   rw [hx] at h
   rcases zI.1 h with h | h
   ·simp only [zG] at h
    obtain ⟨rfl,hv⟩:=h
    refine ⟨zO,row,hx,?_⟩
    cases hk:uP r row with
    | true=>rw [hk] at hv; exact .inl ⟨rfl,hv⟩
    | false=>rw [hk] at hv; exact .inr ⟨rfl,k,Nat.le_refl _,hv⟩
   ·obtain ⟨h1,row,h2,h3⟩:=tw h
    refine ⟨zJ _ h1,row,h2,h3.imp id fun ⟨h4,i,h5,h6⟩=>⟨h4,i,by omega,h6⟩⟩
theorem sq {r:Nat} {row:Row} (h:uP r row=true):100000<=r/\r<=399999/\(row.ow=1->300000<=r):=by
 simp only [uP] at h
 cases h1:Nat.ble 100000 r with
 | false=>rw [h1] at h; simp at h
 | true =>
  have HS:=zQ h1
  cases h2:Nat.ble r 299999 with
  | true =>
   have:=zQ h2
   refine ⟨HS,by omega,fun ho=> ?_⟩
   rw [h1,h2,ho] at h; simp at h
  | false =>
   have Jy:¬ r<=299999:=fun hle=>by rw [Nat.ble_eq_true_of_le hle] at h2; cases h2
   cases h3:Nat.ble r 399999 with
   | true=>have:=zQ h3; exact ⟨HS,this,fun _=>by omega⟩
   | false=>rw [h1,h2,h3] at h; simp at h
theorem zw {rs:List (Nat×Row)}:∀ {l:List Nat} {k:Nat},l.Nodup->∀ {r r' v:Nat},(r,v)∈p4 rs k l->(r',v)∈p4 rs k l->r=r'
 | [],k,_,r,r',v,h,_=>by cases h
 | x::l,k,hn,r,r',v,h,h'=>by
  have Qp:=(List.nodup_cons.1 hn).2
  simp only [p4] at h h'
  cases hx:lk rs x with
  | none=>rw [hx] at h h'; exact zw Qp h h'
  | some row =>
   rw [hx] at h h'
   have cross:∀ {y:Nat},(match uP x row with | true=>x | false=>500000+k)=v->(y,v)∈p4 rs (k+1) l->x=y:=by
    intro y hv hy
    obtain ⟨h1,row',h2,h3⟩:=tw hy
    rcases h3 with ⟨h4,h5⟩ | ⟨h4,i,h5,h6⟩
    ·have hr:=sq h4
     cases hk:uP x row with
     | true=>rw [hk] at hv; simp only at hv; omega
     | false=>rw [hk] at hv; simp only at hv; omega
    ·cases hk:uP x row with
     | true=>have hr:=sq hk; rw [hk] at hv; simp only at hv; omega
     | false=>rw [hk] at hv; simp only at hv; omega
   rcases zI.1 h with h | h<;>rcases zI.1 h' with h' | h'
   ·simp only [zG] at h h'; rw [h.1,h'.1]
   ·simp only [zG] at h; rw [h.1]; exact cross h.2.symm h'
   ·simp only [zG] at h'; rw [h'.1]; exact (cross h'.2.symm h).symm
   ·exact zw Qp h h'
theorem yn {rs:List (Nat×Row)}:∀ {l:List Nat} {k:Nat},l.Nodup->(keys (p4 rs k l)).Nodup
 | [],k,_=>by simp [p4,keys]
 | x::l,k,hn=>by
  have Qp:=List.nodup_cons.1 hn
  simp only [p4]
  cases hx:lk rs x with
  | none=>exact yn Qp.2
  | some row =>
   simp only [keys,List.nodup_cons]
   refine ⟨fun hm=> ?_,yn Qp.2⟩
   obtain ⟨v,hv⟩:=O7 hm
   exact Qp.1 (tw hv).1
theorem oZ {rs:List (Nat×Row)} {k:Nat} {row:Row}:∀ {l:List (Nat×Nat)},(k,row)∈pj rs l↔∃ r,(r,k)∈l/\lk rs r=some row
 | []=>by simp [pj]
 | (x,j)::l=>by
  simp only [pj]
  cases hx:lk rs x with
  | none =>
   simp only [oZ,zI,zG]
   constructor
   ·rintro ⟨r,h1,h2⟩; exact ⟨r,.inr h1,h2⟩
   ·rintro ⟨r,h1 | h1,h2⟩
    ·rw [h1.1,hx] at h2; cases h2
    ·exact ⟨r,h1,h2⟩
  | some u =>
   simp only [zI,oZ,zG]
   constructor
   ·rintro (⟨h1,h2⟩ | ⟨r,h1,h2⟩)
    ·exact ⟨x,.inl ⟨rfl,h1⟩,by rw [hx,h2]⟩
    ·exact ⟨r,.inr h1,h2⟩
   ·rintro ⟨r,⟨h1,HS⟩ | h1,h2⟩
    ·rw [h1,hx] at h2; cases h2; exact .inl ⟨HS,rfl⟩
    ·exact .inr ⟨r,h1,h2⟩
theorem Pl (f:Cv->Cv) (l:List (Nat×AV)) (t:Nat):lk (BW f l) t=(lk l t).map (km f):=by
 induction l with
 | nil=>rfl
 | cons p l ih =>
  obtain ⟨k,v⟩:=p
  simp only [BW,lk,ih]
  cases Nat.beq k t<;>rfl
theorem Hl (f:Cv->Cv) (l:List (Nat×List Cv)) (t:Nat):lk (BV f l) t=(lk l t).map (List.map f):=by
 induction l with
 | nil=>rfl
 | cons p l ih =>
  obtain ⟨k,v⟩:=p
  simp only [BV,lk,ih,xe]
  cases Nat.beq k t<;>rfl
theorem Au:∀ {x y:List (Nat×AV)} {k:Nat} {rs:List (Nat×Row)},Qz x->m.ov k x=(y,rs)->Qz y
 | [],y,k,rs,hp,h=>by cases h; exact hp
 | (t,av)::l,y,k,rs,hp,h=>by
  have hl:Qz l:=fun p hm=>hp p (zJ _ hm)
  have h0:av.plain:=hp (t,av) zO
  cases h2:m.ov (k+64) l with
  | mk n rc =>
   have ih:=Au hl h2
   cases av with
   | c x =>
    simp only [Lk.ov,h2] at h; cases h
    intro p yy
    rcases zI.1 yy with rfl | yy
    ·trivial
    ·exact ih p yy
   | a x =>
    simp only [Lk.ov,h2] at h; cases h
    intro p yy
    rcases zI.1 yy with rfl | yy
    ·trivial
    ·exact ih p yy
   | t x =>
    simp only [Lk.ov,h2] at h; cases h
    intro p yy
    rcases zI.1 yy with rfl | yy
    ·trivial
    ·exact ih p yy
   | g p q x=>exact h0.elim
theorem RR {f:Cv->Cv} {l:List (Nat×AV)} (h:Qz l):Qz (BW f l):=by
 induction l with
 | nil=>exact h
 | cons p l ih =>
  obtain ⟨k,v⟩:=p
  intro q hq
  rcases zI.1 hq with rfl | hq
  ·have:=h (k,v) zO
   cases v with
   | g=>exact this.elim
   | _=>trivial
  ·exact ih (fun p hp=>h p (zJ _ hp)) q hq
theorem FW (s:St):∀ l:List Nat,Qz (Da s l)
 | []=>fun p hp=>by cases hp
 | t::l=>fun p hp=>by
  rcases zI.1 hp with rfl | hp
  ·show (uS (s.get t)).plain
   cases s.get t<;>trivial
  ·exact FW s l p hp
theorem DQ (h:Qz S.tm):o9 S:=fun t p q v hl=>by have:=h _ (cM hl); exact this
theorem E0 {a:Act} (hT:E7 X S γ a) (t:Nat):bn S.lk γ (S.get t) (a.tmps.getD t undef):=by
 simp only [St.get]
 cases hl:lk S.tm t with
 | none=>trivial
 | some av=>exact hT.2 t av hl
theorem GZ {e0:Lk} {γ0:Gh} {w0:World} {a:Act} (ts vk:List Nat) (hI:Bq X γ0 w0 S γ a w) (h3:Z2 e0 γ0 S γ) :
  Qz (S.prune ts vk).tm/\∃ γ',Inv X e0 γ0 w0 (S.prune ts vk) γ' a w:=by
 classical
 simp only [St.prune]
 cases ht:S.lk.ov 600000 (Da S ts) with
 | mk tm r1 =>
  cases hv:S.lk.EE 700000 (u5 S.vs vk) with
  | mk vs r2 =>
   simp only
   cases hc:fB (keys (r1++r2))&&(jr (keys (r1++r2)) (keys S.rs)&&EN S.rs) with
   | false=>exact ⟨fun p hp=>(by cases hp),γ,(IP hI).inv fun k row _ _ h=>(by cases h)⟩
   | true =>
    simp only [zB] at hc
    obtain ⟨HN,XN,_⟩:=hc
    have HN:=gH.1 HN
    have XN:=eI.1 XN
    simp only
    obtain ⟨V1,hV1,acW⟩:=JS (X:=X) hI.rel (VT:=fun t=>a.tmps.getD t undef) (fun p hp=>by
     obtain ⟨t,av⟩:=p
     rw [Db hp]; exact xG (E0 hI.tmp t)) ht
    obtain ⟨V2,Zg,HW,ac8⟩:=Kf (X:=X) hI.rel (H:=fun k u=>γ.O (γ.vb k)=some (.v k)/\∃ cur e,w.heap[γ.vb k]? =some (.cells cur e (0,0))/\cur.toList=u) (fun p hp=>by
     obtain ⟨k,cs⟩:=p
     obtain ⟨h1,cur,e,h2,h3⟩:=hI.rel.vs k cs (uX hp)
     exact ⟨cur.toList,⟨h1,cur,e,h2,rfl⟩,h3⟩) hv
    have hV:=hV1.append Zg
    have TE:∀ j∈keys (r1++r2),600000<=j:=by
     intro j hj
     rw [bx,zH] at hj
     rcases hj with hj | hj
     ·have:=C3 (m:=S.lk) (Da S ts) 600000 j (by rw [ht]; exact hj); omega
     ·have:=Dh (m:=S.lk) (u5 S.vs vk) 700000 j (by rw [hv]; exact hj); omega
    let rs:=r1++(r2++S.rs)
    let S1:St:=⟨tm,vs++S.vs,rs⟩
    let γ1:Gh:=⟨γ.O,fun k=>match lk (V1++V2) k with | some vc=>vc.1 | none=>γ.rv k,fun k=>match lk (V1++V2) k with | some vc=>vc.2 | none=>γ.cv k,γ.vb⟩
    have ML:∀ k,lk rs k=match lk (r1++r2) k with | some row=>some row | none=>lk S.rs k:=by
     intro k
     show lk (r1++(r2++S.rs)) k=_
     rw [← List.append_assoc]
     rw [tN]
     cases lk (r1++r2) k<;>rfl
    have Vg:∀ k,k∉keys (r1++r2)->lk (V1++V2) k=none:=fun k hk=>cH.2 (by rw [hV.keys]; exact hk)
    have hold:∀ r row,S.lk.r r=some row->S1.lk.r r=some row/\γ1.rv r=γ.rv r/\γ1.cv r=γ.cv r:=by
     intro r row hr
     have Cj:r∉keys (r1++r2):=fun hm=>XN r hm (mem_keys (cM hr))
     refine ⟨?_,?_,?_⟩
     ·show lk rs r=_
      rw [ML,cH.2 Cj]; exact hr
     ·show (match lk (V1++V2) r with | some vc=>vc.1 | none=>γ.rv r)=_
      rw [Vg r Cj]
     ·show (match lk (V1++V2) r with | some vc=>vc.2 | none=>γ.cv r)=_
      rw [Vg r Cj]
    have Nl:Ag S.lk γ (r1++r2) (V1++V2) S1.lk γ1:=by
     refine ⟨hold,fun k cs hk=> ?_,rfl,fun k row hm=> ?_,fun k vc hm=> ?_⟩
     ·show ∃ cs',lk (vs++S.vs) k=some cs'
      rw [tN]
      cases lk vs k with
      | some cs'=>exact ⟨cs',rfl⟩
      | none=>exact ⟨cs,hk⟩
     ·show lk rs k=_
      rw [ML,gg HN hm]
     ·have:lk (V1++V2) k=some vc:=gg (by rw [hV.keys]; exact HN) hm
      exact ⟨by show (match lk (V1++V2) k with | some vc=>vc.1 | none=>γ.rv k)=_; rw [this],by show (match lk (V1++V2) k with | some vc=>vc.2 | none=>γ.cv k)=_; rw [this]⟩
    have hW1:Bq X γ0 w0 S1 γ1 a w:=by
     refine ⟨⟨fun k cs hk=> ?_,fun k row hk=> ?_⟩,hI.top,⟨hI.tmp.1,fun t av hl=> ?_⟩,hI.df,hI.fr,fun k h1 h2=> ?_,hI.i2⟩
     ·have hk:lk (vs++S.vs) k=some cs:=hk
      rw [tN] at hk
      cases hl:lk vs k with
      | some cs' =>
       rw [hl] at hk; cases hk
       obtain ⟨u,⟨h1,cur,e,h2,rfl⟩,h4⟩:=ac8 S1.lk γ1 Nl.right (k,cs) (cM hl)
       exact ⟨h1,cur,e,h2,h4⟩
      | none =>
       rw [hl] at hk
       obtain ⟨h1,cur,e,h2,h4⟩:=hI.rel.vs k cs hk
       have:=b9.map (f:=id) (fun x v hx=>Nl.rX hx) h4
       rw [List.map_id] at this
       exact ⟨h1,cur,e,h2,this⟩
     ·have hk:lk rs k=some row:=hk
      rw [ML] at hk
      cases hl:lk (r1++r2) k with
      | some row' =>
       rw [hl] at hk; cases hk
       obtain ⟨vc,h1,h2⟩:=hV.get k row hl
       show cS X γ.O w k row (match lk (V1++V2) k with | some vc=>vc.1 | none=>γ.rv k) (match lk (V1++V2) k with | some vc=>vc.2 | none=>γ.cv k)
       rw [h1]; exact h2
      | none =>
       rw [hl] at hk
       obtain ⟨_,h2,h3⟩:=hold k row hk
       rw [h2,h3]; exact hI.rel.rs k row hk
     ·exact acW S1.lk γ1 Nl.left (t,av) (cM hl)
     ·have Cj:k∉keys (r1++r2):=fun hm=>by have:=TE k hm; omega
      show (match lk (V1++V2) k with | some vc=>vc.1 | none=>γ.rv k)=_
      rw [Vg k Cj]; exact hI.i4 k h1 h2
    have SU:(oH (vcs vs) (oH (Sb tm) [])).Nodup:=lg (lg List.nodup_nil)
    generalize oH (vcs vs) (oH (Sb tm) [])=rl at SU
    let μl:=p4 rs 0 rl
    have hμn:(keys μl).Nodup:=yn SU
    let f:=U7 μl (keys vs)
    let T:St:=⟨BW f tm,BV f vs,pj rs μl⟩
    let κ:Nat->Nat:=fun r=>match lk rs r with | some row=>row.ow | none=>0
    have hκ:∀ r row,lk rs r=some row->({ row with ow:=κ r }:Row)=row:=by
     intro r row hr
     have:κ r=row.ow:=by show (match lk rs r with | some row=>row.ow | none=>0)=_; rw [hr]
     rw [this]
    have hTr:∀ k row,T.lk.r k=some row->∃ r,(r,k)∈μl/\lk rs r=some row:=fun k row hk=>oZ.1 (cM hk)
    have hn:WY S1 T (fun r=>lk μl r) κ f:=by
     refine ⟨fun r r' k h1 h2=>zw SU (cM h1) (cM h2),fun k row hk=> ?_,fun r k row h1 h2=> ?_,fun r k row h1 h2=> ?_,fun k cs' hk=> ?_,fun t av' hl=> ?_,rfl,fun x=> ?_,fun r k h h1 h2=> ?_⟩
     ·obtain ⟨r,h1,h2⟩:=hTr k row hk
      exact ⟨r,row,gg hμn h1,h2,(hκ r row h2).symm⟩
     ·have hm:(k,row)∈pj rs μl:=oZ.2 ⟨r,cM h1,h2⟩
      obtain ⟨row',hl⟩:=oC hm
      obtain ⟨r',h3,h4⟩:=hTr k row' hl
      have:r'=r:=zw SU h3 (cM h1)
      subst this
      have Jy:lk rs r'=some row:=h2
      rw [Jy] at h4; cases h4
      rw [hκ r' row Jy]; exact hl
     ·have:κ r=row.ow:=by show (match lk rs r with | some row=>row.ow | none=>0)=_; rw [show lk rs r=some row from h2]
      rw [this]; exact J7 row.ow
     ·have hk:lk (BV f vs) k=some cs':=hk
      rw [Hl] at hk
      cases hl:lk vs k with
      | none=>rw [hl] at hk; cases hk
      | some cs =>
       rw [hl] at hk; cases hk
       refine ⟨cs,?_,rfl⟩
       show lk (vs++S.vs) k=_
       rw [tN,hl]
     ·have hl:lk (BW f tm) t=some av':=hl
      rw [Pl] at hl
      cases yw:lk tm t with
      | none=>rw [yw] at hl; cases hl
      | some av=>rw [yw] at hl; cases hl; exact ⟨av,by first | rfl | exact yw,rfl⟩
     ·have CX:∀ k∈keys vs,∃ cs',T.lk.v k=some cs':=by
       intro k hk
       obtain ⟨cs,iW⟩:=qc hk
       exact ⟨cs.map f,by show lk (BV f vs) k=_; rw [Hl,iW]; rfl⟩
      cases x with
      | sw r =>
       show (match lk μl r with | some k=>Cv.sw k | none=> .un)=_\/_
       cases hl:lk μl r with
       | none=>exact .inl rfl
       | some k=>exact .inr (.inr ⟨r,k,hl,.inl ⟨rfl,by show (match lk μl r with | some k=>Cv.sw k | none=> .un)=_; rw [hl]⟩⟩)
      | sl r o n =>
       show (match lk μl r with | some k=>Cv.sl k o n | none=> .un)=_\/_
       cases hl:lk μl r with
       | none=>exact .inl rfl
       | some k=>exact .inr (.inr ⟨r,k,hl,.inr (.inl ⟨o,n,rfl,by show (match lk μl r with | some k=>Cv.sl k o n | none=> .un)=_; rw [hl]⟩)⟩)
      | nw r o n =>
       show (match lk μl r with | some k=>Cv.nw k o n | none=> .un)=_\/_
       cases hl:lk μl r with
       | none=>exact .inl rfl
       | some k=>exact .inr (.inr ⟨r,k,hl,.inr (.inr (.inl ⟨o,n,rfl,by show (match lk μl r with | some k=>Cv.nw k o n | none=> .un)=_; rw [hl]⟩))⟩)
      | ns r e c o n =>
       show (match lk μl r with | some k=>Cv.ns k e c o n | none=> .un)=_\/_
       cases hl:lk μl r with
       | none=>exact .inl rfl
       | some k=>exact .inr (.inr ⟨r,k,hl,.inr (.inr (.inr (.inl ⟨e,c,o,n,rfl,by show (match lk μl r with | some k=>Cv.ns k e c o n | none=> .un)=_; rw [hl]⟩)))⟩)
      | pe r o n =>
       show (match lk μl r with | some k=>Cv.pe k o n | none=> .un)=_\/_
       cases hl:lk μl r with
       | none=>exact .inl rfl
       | some k=>exact .inr (.inr ⟨r,k,hl,.inr (.inr (.inr (.inr (.inl ⟨o,n,rfl,by show (match lk μl r with | some k=>Cv.pe k o n | none=> .un)=_; rw [hl]⟩))))⟩)
      | pn r e c o n =>
       show (match lk μl r with | some k=>Cv.pn k e c o n | none=> .un)=_\/_
       cases hl:lk μl r with
       | none=>exact .inl rfl
       | some k=>exact .inr (.inr ⟨r,k,hl,.inr (.inr (.inr (.inr (.inr ⟨e,c,o,n,rfl,by show (match lk μl r with | some k=>Cv.pn k e c o n | none=> .un)=_; rw [hl]⟩))))⟩)
      | pv v c =>
       cases hi:mZ v 0 (keys vs) with
       | none=>exact .inl (by show (match mZ v 0 (keys vs) with | some _=>Cv.pv v c | none=> .un)=_; rw [hi])
       | some j=>exact .inr (.inl ⟨by show (match mZ v 0 (keys vs) with | some _=>Cv.pv v c | none=> .un)=_; rw [hi],rfl,fun k hk _ _=>by simp [Cv.vk] at hk; subst hk; exact CX k (BC hi)⟩)
      | fn g caps =>
       cases hi:As caps (keys vs) with
       | false=>exact .inl (by show (match As caps (keys vs) with | true=>Cv.fn g caps | false=> .un)=_; rw [hi])
       | true=>exact .inr (.inl ⟨by show (match As caps (keys vs) with | true=>Cv.fn g caps | false=> .un)=_; rw [hi],rfl,fun k hk _ _=>CX k (Dv hi k hk)⟩)
      | _=>exact .inr (.inl ⟨rfl,rfl,fun k hk=>by simp [Cv.vk] at hk⟩)
     ·obtain ⟨_,row,_,h3⟩:=tw (cM h)
      rcases h3 with ⟨_,h4⟩ | ⟨_,i,_,h4⟩<;>omega
    refine ⟨RR (Au (FW S ts) ht),?_⟩
    obtain ⟨γ',h1,h2⟩:=hn.ok hW1
    refine ⟨γ',h1.inv fun k row vN rW CY MU=> ?_⟩
    obtain ⟨r,Wt,fO⟩:=hTr k row CY
    obtain ⟨_,row',hr3,hr4⟩:=tw Wt
    rw [fO] at hr3; cases hr3
    rcases hr4 with ⟨h5,h6⟩ | ⟨_,i,_,h6⟩
    ·subst h6
     have h7:=(sq h5).2.2 MU
     have Cj:k∉keys (r1++r2):=fun hm=>by have:=TE k hm; omega
     have h8:S.lk.r k=some row:=by rw [ML,cH.2 Cj] at fO; exact fO
     obtain ⟨i1,i2,i3⟩:=h3 k row h7 rW h8 MU
     obtain ⟨j1,j2⟩:=h2 k k row (gg hμn Wt) fO
     obtain ⟨_,j3,j4⟩:=hold k row h8
     exact ⟨i1,by rw [j1,j3,i2],by rw [j2,j4,i3]⟩
    ·omega
def Uk:Ex->Exit
 | .normal=> .normal | .exit i=> .exit i | .ret=> .ret
def loops:Code->List Code
 | .loop c=>c::loops c
 | .seq a b=>loops a++loops b
 | .cond _ a b=>loops a++loops b
 | .block _ a=>loops a
 | _=>[]
theorem gr (n:Nat):∀ c:Code,getLoop n c=(loops c).find? fun d=>Nat.beq (dD d) n
 | .loop c=>by
  simp only [getLoop,loops,List.find?_cons,gr n c]
  cases Nat.beq (dD c) n<;>rfl
 | .seq a b=>by
  simp only [getLoop,loops,List.find?_append,gr n a,gr n b]
  cases (loops a).find? fun d=>Nat.beq (dD d) n<;>rfl
 | .cond _ a b=>by
  simp only [getLoop,loops,List.find?_append,gr n a,gr n b]
  cases (loops a).find? fun d=>Nat.beq (dD d) n<;>rfl
 | .block _ a=>by simp only [getLoop,loops,gr n a]
 | .skip=>rfl
 | .region .. =>rfl
 | .exit _=>rfl
 | .ret=>rfl
 | .rangeFunc .. =>rfl
 | .scope _=>rfl
 | .label _=>rfl
 | .goto _=>rfl
 | .refuse _=>rfl
theorem jg:∀ {b c:Code},c∈loops b->∀ d∈loops c,d∈loops b
 | .loop a,c,h,d,hd=>by
  simp only [loops,zI] at h ⊢
  rcases h with rfl | h
  ·exact .inr hd
  ·exact .inr (jg h d hd)
 | .seq a b,c,h,d,hd=>by
  simp only [loops,zH] at h ⊢
  exact h.imp (fun h=>jg h d hd) (fun h=>jg h d hd)
 | .cond _ a b,c,h,d,hd=>by
  simp only [loops,zH] at h ⊢
  exact h.imp (fun h=>jg h d hd) (fun h=>jg h d hd)
 | .block _ a,c,h,d,hd=>by simp only [loops] at h ⊢; exact jg h d hd
 | .skip,c,h,_,_=>by simp [loops] at h
 | .region ..,c,h,_,_=>by simp [loops] at h
 | .exit _,c,h,_,_=>by simp [loops] at h
 | .ret,c,h,_,_=>by simp [loops] at h
 | .rangeFunc ..,c,h,_,_=>by simp [loops] at h
 | .scope _,c,h,_,_=>by simp [loops] at h
 | .label _,c,h,_,_=>by simp [loops] at h
 | .goto _,c,h,_,_=>by simp [loops] at h
 | .refuse _,c,h,_,_=>by simp [loops] at h
def tV (c:Code):List Nat:=rP dD (loops c)
theorem Gs {n:Nat} {b c:Code} (h:getLoop n b=some c):c∈loops b/\dD c=n:=by
 rw [gr] at h
 exact ⟨List.mem_of_find?_eq_some h,aF (List.find?_some (p:=fun d=>Nat.beq (dD d) n) h)⟩
theorem Bi {b c:Code} (hn:fB (tV b)=true) (h:c∈loops b):getLoop (dD c) b=some c:=by
 have HT:=gH.1 hn
 simp only [tV,xe] at HT
 rw [gr]
 clear hn
 revert HT h
 generalize loops b=l
 intro h hn
 induction l with
 | nil=>cases h
 | cons x l ih =>
  simp only [List.map_cons,List.nodup_cons] at hn
  rw [List.find?_cons]
  rcases zI.1 h with rfl | h
  ·rw [Nat.beq_refl]
  ·have cL:Nat.beq (dD x) (dD c)=false:=by
    cases hb:Nat.beq (dD x) (dD c) with
    | false=>rfl
    | true=>exact absurd (List.mem_map.2 ⟨c,h,(aF hb).symm⟩) hn.1
   rw [cL]; exact ih h hn.2
section
variable {R:Type} {E:Env R} {L:Live} {body:Code} {lps:Nat->Loop R}
structure Gf (X:Ctx) (E:Env R) (L:Live) (body:Code) (lps:Nat->Loop R):Prop where
 z:∀ id i l,lps 0 id i l=fun _=>none
 s:∀ n id i l,lps (n+1) id i l=(fun _=>none)\/∃ c,getLoop id body=some c/\lps (n+1) id i l=round X E L (lps n) c i l
 nd:fB (tV body)=true
theorem wj (hE:∀ f cb cJ,gq (E.fn f cb cJ)) (hl:Gf X E L body lps):∀ n id i l,gq (fun k:Ex×St->Option R=>lps n id i l fun e s=>k (e,s))
 | 0,id,i,l=>by rw [hl.z]; exact gq.none
 | n+1,id,i,l=>by
  rcases hl.s n id i l with h | ⟨c,_,h⟩
  ·rw [h]; exact gq.none
  ·rw [h]; exact LB hE (wj hE hl n) c i l
variable {e0:Lk} {γ0:Gh} {w0:World}
theorem DW {k:Sk}:∀ {l:List Sk} {n i:Nat},AY k n l=some i->∃ sk,n<=i/\l[i-n]? =some sk/\GN k sk=true
 | [],n,i,h=>by cases h
 | s::l,n,i,h=>by
  simp only [AY] at h
  cases hs:GN k s with
  | true=>rw [hs] at h; cases h; exact ⟨s,Nat.le_refl _,by simp,hs⟩
  | false =>
   rw [hs] at h
   obtain ⟨sk,h1,h2,h3⟩:=DW h
   refine ⟨sk,by omega,?_,h3⟩
   rw [show i-n=(i-(n+1))+1 by omega]; simpa using h2
def Z0 (X:Ctx) (E:Env R) (L:Live) (body:Code) (lps:Nat->Loop R) (e0:Lk) (γ0:Gh) (w0:World) (n:Nat):Prop :=
 ∀ (c:Code) (A:Wf) (i:Nat) (l:List m7) (sk:Sk) (s:St) (e:Ex) (s':St) (γ:Gh) (a:Act) (w:World) (Q:Exit->Act->World->Prop),getLoop (dD c) body=some c->lk L (dD c)=some A ->
  nth A.sk i=some sk->AF sk l=some s->o9 s->Inv X e0 γ0 w0 s γ a w->(∀ K:Ex×St->Option R,(lps n (dD c) i l fun e s=>K (e,s))=K (e,s')) ->
  (o9 s'->∀ γ' a' w',Inv X e0 γ0 w0 s' γ' a' w'->Q (Uk e) a' w')->Code.rounds X.P c Q n a w
theorem Kn (r0:R) {n:Nat} (hl:Z0 X E L body lps e0 γ0 w0 n) {c:Code} (hc:getLoop (dD c) body=some c) {s:St} {e:Ex} {s':St} {γ:Gh} {a:Act} {w:World} {Q:Exit->Act->World->Prop}
  (hI:Inv X e0 γ0 w0 s γ a w) (hK:∀ K:Ex×St->Option R,(exec X E L (lps n) (.loop c) s fun e s=>K (e,s))=K (e,s'))
  (hQ:o9 s'->∀ γ' a' w',Inv X e0 γ0 w0 s' γ' a' w'->Q (Uk e) a' w'):Code.rounds X.P c Q n a w:=by
 simp only [exec] at hK
 cases hA:lk L (dD c) with
 | none=>simp only [hA] at hK; exact (bN r0 hK).elim
 | some A =>
  simp only [hA] at hK
  obtain ⟨γ1,hW,h3⟩:=Mn A.fz hI
  obtain ⟨hng,γ2,Tk⟩:=GZ A.ts A.vk hW h3
  revert hK
  generalize hS1:(s.freeze A.fz).prune A.ts A.vk=S1 at hng Tk
  intro hK
  cases hf:flat S1 with
  | mk k l =>
   simp only [hf] at hK
   cases hfo:AY k 0 A.sk with
   | none=>simp only [hfo] at hK; exact (bN r0 hK).elim
   | some i =>
    simp only [hfo] at hK
    obtain ⟨sk,_,h2,h4⟩:=DW hfo
    have Y4:GN (flat S1).1 sk=true:=by rw [hf]; exact h4
    obtain ⟨γ3,hI3⟩:=Ld Y4 Tk
    have hu:AF sk l=some ⟨S1.tm,S1.vs,se S1.rs sk.rs⟩:=by
     have:=Mo hng Y4; rw [hf] at this; exact this
    exact hl c A i l sk _ e s' γ3 a w Q hc hA (by rw [ij]; simpa using h2) hu (DQ (S:=⟨S1.tm,S1.vs,se S1.rs sk.rs⟩) hng) hI3 hK hQ
theorem qN (r0:R) (hX:iy X) (hE:te X E) (QN:Gf X E L body lps) {n:Nat} (hl:Z0 X E L body lps e0 γ0 w0 n) :
  ∀ (c:Code) (s:St) (e:Ex) (s':St) (γ:Gh) (a:Act) (w:World) (Q:Exit->Act->World->Prop),(∀ d∈loops c,getLoop (dD d) body=some d)->o9 s->Inv X e0 γ0 w0 s γ a w ->
   (∀ K:Ex×St->Option R,(exec X E L (lps n) c s fun e s=>K (e,s))=K (e,s')) ->
   (o9 s'->∀ γ' a' w',Inv X e0 γ0 w0 s' γ' a' w'->Q (Uk e) a' w')->c.wp X.P Q a w
 | .skip,s,e,s',γ,a,w,Q,_,hg,hI,hK,hQ=>by
  have:=iR r0 hK; cases this
  exact wp_skip (hQ hg γ a w hI)
 | .exit id,s,e,s',γ,a,w,Q,_,hg,hI,hK,hQ=>by
  have:=iR r0 hK; cases this
  exact wp_exit (hQ hg γ a w hI)
 | .ret,s,e,s',γ,a,w,Q,_,hg,hI,hK,hQ=>by
  have:=iR r0 hK; cases this
  exact wp_ret (hQ hg γ a w hI)
 | .region id ops draw,s,e,s',γ,a,w,Q,_,hg,hI,hK,hQ=>by
  simp only [exec] at hK
  obtain ⟨oc,rh⟩:=yT (X:=X) hE.FC ops draw s
  cases oc with
  | none=>exact (bN r0 (α:=Ex×St) (y:=(e,s')) fun K=>(rh fun s=>K (.normal,s)).symm.trans (hK K)).elim
  | some s1 =>
   have:(Ex.normal,s1)=(e,s'):=iR r0 fun K=>(rh fun s=>K (.normal,s)).symm.trans (hK K)
   cases this
   exact U6 r0 hX hE rh hg hI hQ
 | .seq x y,s,e,s',γ,a,w,Q,hd,hg,hI,hK,hQ=>by
  simp only [exec] at hK
  obtain ⟨oc,rh⟩:=jq hE.FC (fun c i l=>wj hE.FC QN n c i l) x s
  have hdx:∀ d∈loops x,getLoop (dD d) body=some d:=fun d h=>hd d (by simp only [loops,zH]; exact .inl h)
  have SX:∀ d∈loops y,getLoop (dD d) body=some d:=fun d h=>hd d (by simp only [loops,zH]; exact .inr h)
  let F:(Ex×St->Option R)->Ex×St->Option R:=fun K x=>match x.1 with
   | .normal=>exec X E L (lps n) y x.2 fun e s=>K (e,s)
   | e=>K (e,x.2)
  have hF:∀ K,oc.bind (F K)=K (e,s'):=fun K=>(rh (F K)).symm.trans (hK K)
  cases oc with
  | none=>exact (bN r0 hF).elim
  | some x1 =>
   obtain ⟨e1,s1⟩:=x1
   refine wp_seq (qN r0 hX hE QN hl x s e1 s1 γ a w _ hdx hg hI rh fun HB γ1 a1 w1 Nh=> ?_)
   cases e1 with
   | normal=>exact qN r0 hX hE QN hl y s1 e s' γ1 a1 w1 Q SX HB Nh hF hQ
   | exit i =>
    have:=iR r0 hF; cases this
    exact hQ HB γ1 a1 w1 Nh
   | ret =>
    have:=iR r0 hF; cases this
    exact hQ HB γ1 a1 w1 Nh
 | .cond c x y,s,e,s',γ,a,w,Q,hd,hg,hI,hK,hQ=>by
  have hdx:∀ d∈loops x,getLoop (dD d) body=some d:=fun d h=>hd d (by simp only [loops,zH]; exact .inl h)
  have SX:∀ d∈loops y,getLoop (dD d) body=some d:=fun d h=>hd d (by simp only [loops,zH]; exact .inr h)
  simp only [exec] at hK
  revert hK; split
  ·rename_i b hb
   intro hK
   have hv:=rZ (s':=s) hI.tmp (vG hg) (fun _ _ h=>h) (p:=[]) (fun x hx=>by cases hx) 0 c
   rw [hb] at hv
   have hv:a.eval c= .bool b:=hv
   cases b with
   | true=>exact wp_cond hv (qN r0 hX hE QN hl x s e s' γ a w Q hdx hg hI hK hQ)
   | false=>exact wp_cond hv (qN r0 hX hE QN hl y s e s' γ a w Q SX hg hI hK hQ)
  ·intro hK; exact (bN r0 hK).elim
 | .block id c,s,e,s',γ,a,w,Q,hd,hg,hI,hK,hQ=>by
  simp only [exec] at hK
  obtain ⟨oc,rh⟩:=jq hE.FC (fun c i l=>wj hE.FC QN n c i l) c s
  let F:(Ex×St->Option R)->Ex×St->Option R:=fun K x=>match x.1 with
   | .exit i=>match Nat.beq i id with
    | true=>K (.normal,x.2)
    | false=>K (x.1,x.2)
   | e=>K (e,x.2)
  have hF:∀ K,oc.bind (F K)=K (e,s'):=fun K=>(by
   refine (rh (F K)).symm.trans (Eq.trans ?_ (hK K))
   congr 1)
  cases oc with
  | none=>exact (bN r0 hF).elim
  | some x1 =>
   obtain ⟨e1,s1⟩:=x1
   refine wp_block (qN r0 hX hE QN hl c s e1 s1 γ a w _ hd hg hI rh fun HB γ1 a1 w1 Nh=> ?_)
   cases e1 with
   | normal =>
    have:=iR r0 hF; cases this
    exact hQ HB γ1 a1 w1 Nh
   | ret =>
    have:=iR r0 hF; cases this
    exact hQ HB γ1 a1 w1 Nh
   | exit i =>
    have hF:∀ K:Ex×St->Option R,(match Nat.beq i id with | true=>K (.normal,s1) | false=>K (.exit i,s1))=K (e,s'):=hF
    show (if i=id then Q .normal a1 w1 else Q (.exit i) a1 w1)
    cases hb:Nat.beq i id with
    | true =>
     have:=aF hb; subst this
     rw [if_pos rfl]
     simp only [hb] at hF
     have:=iR r0 hF; cases this
     exact hQ HB γ1 a1 w1 Nh
    | false =>
     have cL:i≠id:=fun h=>by subst h; rw [Nat.beq_refl] at hb; cases hb
     rw [if_neg cL]
     simp only [hb] at hF
     have:=iR r0 hF; cases this
     exact hQ HB γ1 a1 w1 Nh
 | .loop c,s,e,s',γ,a,w,Q,hd,hg,hI,hK,hQ =>
  wp_loop_rounds n (Kn r0 hl (hd c (by simp only [loops]; exact zO)) hI hK hQ)
 | .rangeFunc ..,s,e,s',γ,a,w,Q,_,hg,hI,hK,hQ=>(bN r0 hK).elim
 | .scope _,s,e,s',γ,a,w,Q,_,hg,hI,hK,hQ=>(bN r0 hK).elim
 | .label _,s,e,s',γ,a,w,Q,_,hg,hI,hK,hQ=>(bN r0 hK).elim
 | .goto _,s,e,s',γ,a,w,Q,_,hg,hI,hK,hQ=>(bN r0 hK).elim
 | .refuse _,s,e,s',γ,a,w,Q,_,hg,hI,hK,hQ=>(bN r0 hK).elim
theorem Gq {s:St} {γ:Gh} {a:Act} {w:World} (A:Wf) (e:Ex) (hg:o9 s) (hI:Inv X e0 γ0 w0 s γ a w):o9 (A.leave e s)/\∃ γ',Inv X e0 γ0 w0 (A.leave e s) γ' a w:=by
 simp only [Wf.leave]
 cases lk A.out e.num with
 | none=>exact ⟨hg,γ,hI⟩
 | some p =>
  obtain ⟨ts,vk⟩:=p
  obtain ⟨h1,h2⟩:=GZ ts vk hI.R0 fun k row h1 h2=>hI.i3 k row (by omega) h2
  exact ⟨DQ h1,h2⟩
theorem lpR (r0:R) (hX:iy X) (hE:te X E) (hl:Gf X E L body lps):∀ n,Z0 X E L body lps e0 γ0 w0 n
 | 0=>by
  intro c A i l sk s e s' γ a w Q hc hA TO hu hg hI hK hQ
  rw [hl.z] at hK
  exact (bN r0 hK).elim
 | n+1=>by
  intro c A i l sk s e s' γ a w Q hc hA TO hu hg hI hK hQ
  have ih:=lpR r0 hX hE hl n
  rcases hl.s n (dD c) i l with h | ⟨c',lH,h⟩
  ·rw [h] at hK; exact (bN r0 hK).elim
  ·rw [hc] at lH; cases lH
   rw [h] at hK
   simp only [round,hA,TO,hu] at hK
   obtain ⟨oc,rh⟩:=jq hE.FC (fun c i l=>wj hE.FC hl n c i l) c s
   let F:(Ex×St->Option R)->Ex×St->Option R:=fun K x=>match x.1 with
    | .normal=>exec X E L (lps n) (.loop c) x.2 fun e s=>K (e,s)
    | e=>K (e,A.leave e x.2)
   have hF:∀ K,oc.bind (F K)=K (e,s'):=fun K=>(rh (F K)).symm.trans (hK K)
   have QF:=(Gs hc).1
   have hd:∀ d∈loops c,getLoop (dD d) body=some d:=fun d h=>Bi hl.nd (jg QF d h)
   cases oc with
   | none=>exact (bN r0 hF).elim
   | some x1 =>
    obtain ⟨e1,s1⟩:=x1
    rw [rounds_succ]
    refine qN r0 hX hE hl ih c s e1 s1 γ a w _ hd hg hI rh fun HB γ1 a1 w1 Nh=> ?_
    cases e1 with
    | normal=>exact Kn r0 ih hc Nh hF hQ
    | exit j =>
     have:=iR r0 hF; cases this
     obtain ⟨h1,γ2,h2⟩:=Gq A (.exit j) HB Nh
     exact hQ h1 γ2 a1 w1 h2
    | ret =>
     have:=iR r0 hF; cases this
     obtain ⟨h1,γ2,h2⟩:=Gq A .ret HB Nh
     exact hQ h1 γ2 a1 w1 h2
end
end Go.Soft
namespace Go.Soft
open Go
variable {X:Ctx} {m M:Lk} {γ γ':Gh} {w w':World} {ρ:Operand->Value} {S T:St} {δ δ':Dl}
theorem cS.pre {O:OM} {k d:Nat} {τ:Ty} {xs:List (El τ)} {v u:Value} {cs:List Value} (hd:rL d=true) (h:cS X O w k ⟨τ,xs,d⟩ v cs) {len:Nat} (hle:len<=xs.length) (hs:Aw (sz τ) v 0 len u) :
  cS X O w k ⟨τ,sub xs 0 len,d⟩ u (cs.take (len*sz τ)):=by
 have hl:(sub xs 0 len).length=len:=kF xs (by omega)
 have own:∀ t,w.ownsRow 0 (X.id τ) (sz τ) v xs.length cs->(∀ g,v.ownBlock=some g->O g=some t)->w.ownsRow 0 (X.id τ) (sz τ) u len (cs.take (len*sz τ))/\∀ g,u.ownBlock=some g->O g=some t:=by
  intro t ho hb
  rcases hs with ⟨rfl,rfl,rfl⟩ | ⟨g,o,n,cap,o',cap',rfl,rfl,⟨h1,h2⟩,h3,h4,_⟩
  ·exact ⟨by simpa using World.ownsRow_nil w 0 _ _,by simp [Value.ownBlock]⟩
  ·obtain ⟨hlen,ho⟩:=ho
   rcases ho with ⟨hn,_⟩ | ⟨g',cap2,cur,hv,JE,hg,HX,hmx,mn,ht⟩
   ·cases hn
   ·injection hv with e1 e2 e3
    injection e1 with e1
    injection e1 with e4 e5 _
    subst e4; subst e5; subst e3
    have MW:o'=0:=by omega
    subst MW
    have C1:cap'=cap:=by omega
    subst C1
    have hm:len*sz τ<=xs.length*sz τ:=zP _ hle
    refine ⟨⟨by rw [List.length_take]; omega,.inr ⟨g,cap',cur,rfl,JE,hg,h1,hmx,mn,?_⟩⟩,fun b X6=>hb b (by simpa [Value.ownBlock] using X6)⟩
    rw [← ht,List.take_take]; congr 1; omega
 refine ⟨?_,fun e c ct he hc=> ?_⟩
 ·show Sl X O w (dN k d) τ u (sub xs 0 len).length _
  rw [hl]
  have ht:=h.top
  rcases l9 hd with rfl | rfl | rfl
  ·have ht:zz (fun g=>In .fz (O g)) w (sz τ) v xs.length cs:=ht
   have h2:=ht.sub (off:=0) (len:=len) (by omega) hs
   have h3:zz (fun g=>In .fz (O g)) w (sz τ) u len (cs.take (len*sz τ)):=by simpa using h2
   exact h3
  ·exact own _ ht.1 ht.2
  ·exact own _ ht.1 ht.2
 ·have he:e<(sub xs 0 len).length:=he
  rw [hl] at he
  have hc:(cells τ ((sub xs 0 len).getD e (cg τ)))[c]? =some ct:=hc
  rw [su xs _ he,Nat.zero_add] at hc
  obtain ⟨x,hx,hr⟩:=h.rA e c ct (show e<xs.length by omega) hc
  refine ⟨x,?_,hr⟩
  have lH:c<sz τ:=by have:=(zU.1 hc).1; rwa [bc] at this
  have:e*sz τ+c<len*sz τ:=by
   have:=zP (sz τ) (show e+1<=len from he)
   rw [Nat.add_mul] at this; omega
  show (cs.take (len*sz τ))[e*sz τ+c]? =_
  rw [List.getElem?_take,if_pos this]; exact hx
theorem UF {off w:Nat} (h:YU off w=true):rL w=true:=by
 cases off with
 | zero=>exact h
 | succ o=>have:w=3:=aF h; subst this; rfl
theorem cS.part {O:OM} {k d:Nat} {τ:Ty} {xs:List (El τ)} {v u:Value} {cs:List Value} {off len:Nat} (hd:YU off d=true) (h:cS X O w k ⟨τ,xs,d⟩ v cs) (hle:off+len<=xs.length) (hs:Aw (sz τ) v off len u) :
  ∃ cs',cS X O w k ⟨τ,sub xs off len,d⟩ u cs':=by
 cases off with
 | zero=>exact ⟨_,h.pre hd (by omega) hs⟩
 | succ o =>
  have MZ:d=3:=aF hd
  subst MZ
  have hl:(sub xs (o+1) len).length=len:=kF xs hle
  have ht:zz (fun g=>In .fz (O g)) w (sz τ) v xs.length cs:=h.top
  have h2:=ht.sub (off:=o+1) (len:=len) hle hs
  refine ⟨((cs.drop ((o+1)*sz τ)).take (len*sz τ)),?_,fun e c ct he hc=> ?_⟩
  ·show Sl X O w (dN k 3) τ u (sub xs (o+1) len).length _
   rw [hl]
   exact h2
  ·have he:e<(sub xs (o+1) len).length:=he
   rw [hl] at he
   have hc:(cells τ ((sub xs (o+1) len).getD e (cg τ)))[c]? =some ct:=hc
   rw [su xs _ he] at hc
   obtain ⟨x,hx,hr⟩:=h.rA (o+1+e) c ct (show o+1+e<xs.length by omega) hc
   refine ⟨x,?_,hr⟩
   have lH:c<sz τ:=by have:=(zU.1 hc).1; rwa [bc] at this
   have:e*sz τ+c<len*sz τ:=by
    have:=zP (sz τ) (show e+1<=len from he)
    rw [Nat.add_mul] at this; omega
   show ((cs.drop ((o+1)*sz τ)).take (len*sz τ))[e*sz τ+c]? =_
   rw [List.getElem?_take,if_pos this,List.getElem?_drop,← Nat.add_assoc,← Nat.add_mul]; exact hx
def WN (G:List (Nat×Nat)):Rb:=⟨fun r=>some (r,match lk G r with | some d=>d | none=>5),none,fun k=>some (.v k)⟩
def mO (G:List (Nat×Nat)) (O:OM):OM:=fun g=>(O g).bind (WN G).f
theorem NB {G:List (Nat×Nat)} {r:Nat} (h:r∉keys G):(WN G).r r=some (r,5):=by
 show some (r,match lk G r with | some d=>d | none=>5)=_
 rw [cH.2 h]
theorem O8 {G:List (Nat×Nat)} {O:OM} {r g:Nat} (h:r∉keys G) (hf:Mk r (O g)):Mk r (mO G O g):=by
 have e1:(WN G).f (.r r)=some (.r r):=by simp only [Rb.f,NB h]; rfl
 have e2:∀ e c,(WN G).f (.n r e c)=some (.n r e c):=fun e c=>by simp only [Rb.f,NB h]; rfl
 simp only [mO]
 rcases hf with hf | hf | hf | ⟨e,c,hf⟩<;>rw [hf]
 ·exact .inl rfl
 ·exact .inr (.inl rfl)
 ·exact .inr (.inr (.inl e1))
 ·exact .inr (.inr (.inr ⟨e,c,e2 e c⟩))
theorem tx (hR:Rel X m γ w) {G:List (Nat×Nat)} {r d:Nat} {row:Row} (hr:m.r r=some row) (hG:lk G r=some d) (hle:nO d row.ow=true) :
  cS X (mO G γ.O) w r { row with ow:=d } (γ.rv r) (γ.cv r) :=
 (hR.rs r row hr).relabel (a:=WN G) (fun _=>by show some (r,match lk G r with | some d=>d | none=>5)=_; rw [hG]) hle fun g o hg _=>⟨hg,rfl⟩
section
variable {e0:Lk} {γ0:Gh} {w0:World} {a:Act}
theorem GX {r p j:Nat} (h:Q4 r=some (p,j)):r=100000+p*64+j/\j<64/\100000<=r/\r<200000:=by
 simp only [Q4] at h
 revert h; split
 ·rename_i h1 h2
  intro h
  have h1:=zQ h1
  have h2:=zQ h2
  simp only [zA,zG] at h
  obtain ⟨rfl,rfl⟩:=h
  omega
 ·intro h; cases h
theorem BG {r:Nat} (h:m.Oc r=true):∃ row,m.r r=some row/\row.ow=1:=by
 simp only [Lk.Oc] at h
 cases hr:m.r r with
 | none=>rw [hr] at h; cases h
 | some row=>rw [hr] at h; exact ⟨row,rfl,aF h⟩
theorem Sf (hI:Inv X e0 γ0 w0 S γ a w) {x:Cv} {y:Ct} {v:Value} (hx:bp S.lk γ x v) (h:(S.lk.vw x).ct=some y) {G:List (Nat×Nat)} (hs:∀ r∈x.rk,r∉keys G) :
  rF X e0 γ0 (keys G) (mO G γ.O) w 1 (.m y) v []:=by
 refine ⟨rfl,hx.one hI.rel,?_⟩
 cases y with
 | l τ xs =>
  have ⟨⟨cs,hv⟩,_⟩:=Ac (Le.refl _) hI.rel hx h
  refine ⟨cs,hv.mono fun g o hg ha=>⟨hg,?_⟩⟩
  simp only [Ug] at ha
  cases hr:x.row with
  | none=>rw [hr] at ha; exact ha.elim
  | some r =>
   rw [hr] at ha
   have Cj:=hs r (by simp [Cv.rk,hr])
   exact ⟨r,Cj,O8 Cj ha⟩
 | _=>revert h; cases S.lk.vw x<;>simp [Vw.ct]
theorem JZ (hI:Inv X e0 γ0 w0 S γ a w) {wd:Nat} {x:Cv} {y:Rc} {ks:List Nat} {v:Value} (hx:bp S.lk γ x v) (h:S.lk.ux wd x=some (y,ks)) {G:List (Nat×Nat)} (hG:∀ r∈ks,lk G r=some wd)
  (hs:wd=1->∀ r∈x.rk,r∉keys G):rF X e0 γ0 (keys G) (mO G γ.O) w wd y v ks:=by
 have one:=hx.one hI.rel
 have unk:∀ {y:Rc} {ks:List Nat},some (Rc.un,([]:List Nat))=some (y,ks)->rF X e0 γ0 (keys G) (mO G γ.O) w wd y v ks:=by
  intro y ks h; cases h; exact ⟨rfl,one⟩
 have own:∀ {y:Rc} {ks:List Nat} {τ:Ty} {xs:List (El τ)} {r:Nat} {cs:List Value},rL wd=true->cS X (mO G γ.O) w r ⟨τ,xs,wd⟩ v cs->some (Rc.c (.l τ xs),[r])=some (y,ks)->rF X e0 γ0 (keys G) (mO G γ.O) w wd y v ks:=by
  intro y ks τ xs r cs hd hr h
  cases h
  exact ⟨.inl hd,.inr ⟨r,cs,rfl,hr⟩⟩
 have mm:∀ {y:Rc} {ks:List Nat},wd=1->(match (S.lk.vw x).ct with | some y=>some (Rc.m y,([]:List Nat)) | none=>none)=some (y,ks)->rF X e0 γ0 (keys G) (mO G γ.O) w wd y v ks:=by
  intro y ks h1 h
  cases hc:(S.lk.vw x).ct with
  | none=>rw [hc] at h; cases h
  | some c=>rw [hc] at h; cases h; subst h1; exact Sf hI hx hc (hs rfl)
 cases x with
 | un =>
  simp only [Lk.ux] at h
  revert h; split
  ·exact unk
  ·intro h; cases h
 | b z=>cases h; exact ⟨rfl,hx⟩
 | i k n=>cases h; exact ⟨rfl,hx⟩
 | s z=>cases h; exact ⟨rfl,hx⟩
 | nl τ =>
  simp only [Lk.ux] at h
  revert h; split
  ·intro h; cases h
   exact ⟨rfl,one,[],⟨by simp,.inl ⟨hx,rfl⟩⟩,fun e c ct he=>by simp at he⟩
  ·exact unk
  ·intro h; cases h; exact ⟨.inr rfl,.inl ⟨rfl,hx,rfl⟩⟩
  ·cases hd:rL wd with
   | false=>intro h; cases h
   | true=>intro h; cases h; exact ⟨.inl hd,.inl ⟨rfl,hx,rfl⟩⟩
 | sw r =>
  obtain ⟨⟨row,hr⟩,hv⟩:=hx
  simp only [Lk.ux] at h
  revert h; split
  ·exact mm rfl
  ·exact unk
  ·split
   ·rename_i p j hk hb
    intro h; cases h
    obtain ⟨h1,h2,h3,h4⟩:=GX hk
    obtain ⟨row',cy,ho⟩:=BG hb
    rw [hr] at cy; cases cy
    obtain ⟨i1,i2,i3⟩:=hI.i3 r row h3 (by omega) hr ho
    subst h1
    exact ⟨rfl,row,h2,h4,i1,by rw [hv,i2]⟩
   ·intro h; cases h
  ·rw [hr]; simp only
   cases hd:rL wd with
   | false=>intro h; cases h
   | true =>
    cases hle:nO wd row.ow with
    | false=>intro h; cases h
    | true =>
     intro h
     have bo:=tx hI.rel (G:=G) hr (d:=wd) (hG r (by cases h; simp)) hle
     rw [← hv] at bo
     exact own hd bo h
 | sl r off len =>
  obtain ⟨row,hr,acR,rU⟩:=hx
  simp only [Lk.ux] at h
  revert h; split
  ·exact mm rfl
  ·exact unk
  ·intro h; cases h
  ·simp only [hr]
   cases hd:YU off wd with
   | false=>intro h; cases h
   | true =>
    cases hle:nO wd row.ow with
    | false=>intro h; cases h
    | true =>
     intro h
     have bo:=tx hI.rel (G:=G) hr (d:=wd) (hG r (by cases h; simp)) hle
     obtain ⟨cs',hp⟩:=bo.part hd acR rU
     exact own (UF hd) hp h
 | nw r e c =>
  obtain ⟨row,τ,ys,hr,he,hc,hu⟩:=hx
  simp only [Lk.ux] at h
  revert h; split
  ·exact mm rfl
  ·exact unk
  ·split
   ·rename_i p j hk hb
    intro h; cases h
    obtain ⟨h1,h2,h3,h4⟩:=GX hk
    obtain ⟨row',cy,ho⟩:=BG hb
    rw [hr] at cy; cases cy
    obtain ⟨i1,i2,i3⟩:=hI.i3 r row h3 (by omega) hr ho
    subst h1
    exact ⟨rfl,row,τ,ys,h2,h4,i1,he,hc,by rw [← i3]; exact hu⟩
   ·intro h; cases h
  ·intro h; cases h
 | ns r e c off len =>
  simp only [Lk.ux] at h
  revert h; split
  ·exact mm rfl
  ·exact unk
  ·intro h; cases h
  ·intro h; cases h
 | pv k c =>
  simp only [Lk.ux] at h
  revert h; split
  ·exact mm rfl
  ·exact unk
  ·intro h; cases h
  ·intro h; cases h
 | pe r e c =>
  simp only [Lk.ux] at h
  revert h; split
  ·exact mm rfl
  ·exact unk
  ·intro h; cases h
  ·intro h; cases h
 | pn r e c k d =>
  simp only [Lk.ux] at h
  revert h; split
  ·exact mm rfl
  ·exact unk
  ·intro h; cases h
  ·intro h; cases h
 | fn f caps =>
  simp only [Lk.ux] at h
  revert h; split
  ·exact mm rfl
  ·exact unk
  ·intro h; cases h
  ·intro h; cases h
def Wg (ks:List Nat) (d:Nat):List (Nat×Nat):=ks.map fun r=>(r,d)
theorem Bv (ks:List Nat) (d:Nat):keys (Wg ks d)=ks:=by simp [Wg,keys_eq,Function.comp_def]
theorem Fg {ks:List Nat} {d:Nat} {G:List (Nat×Nat)} (h:∀ p∈Wg ks d,lk G p.1=some p.2):∀ r∈ks,lk G r=some d:=fun r hr=>h (r,d) (List.mem_map.2 ⟨r,hr,rfl⟩)
theorem wc (hI:Inv X e0 γ0 w0 S γ a w):∀ {l:List Cv} {us:List Value} {ms:List Nat} {ys:List Rc} {ks:List Nat},b9 S.lk γ l us->S.lk.uI ms l=some (ys,ks) ->
  ∃ g,keys g=ks/\∀ G,(∀ p∈g,lk G p.1=some p.2)->(∀ r∈CV ms l,r∉keys G)->m8 X e0 γ0 (keys G) (mO G γ.O) w ms ys us ks
 | [],us,ms,ys,ks,hl,h=>by cases hl; cases h; exact ⟨[],rfl,fun G _ _=> .nil⟩
 | x::l,us,ms,ys,ks,hl,h=>by
  cases hl with
  | cons hx hl =>
   simp only [Lk.uI] at h
   cases h1:S.lk.ux (hd ms) x with
   | none=>simp [h1] at h
   | some p =>
    obtain ⟨y,k⟩:=p
    cases h2:S.lk.uI (tl ms) l with
    | none=>simp [h1,h2] at h
    | some q =>
     obtain ⟨yl,kl⟩:=q
     simp only [h1,h2,zA,zG] at h
     obtain ⟨rfl,rfl⟩:=h
     obtain ⟨g,hg,ih⟩:=wc hI hl h2
     refine ⟨Wg k (hd ms)++g,by rw [bx,Bv,hg],fun G hG hs=> .cons (JZ hI hx h1 (Fg fun p hp=>hG p (List.mem_append_left _ hp)) fun hm r hr=>hs r ?_) (ih G (fun p hp=>hG p (List.mem_append_right _ hp)) fun r hr=>hs r ?_)⟩
     ·simp only [CV,hm,zH]; exact .inl hr
     ·simp only [CV,zH]; exact .inr hr
theorem F1 (hI:Inv X e0 γ0 w0 S γ a w):∀ {l:List (Bool×List Cv)} {us:List Value} {ms:List (List Nat)} {ys:List (Bool×List Rc)} {ks:List Nat},sT S.lk γ l us->S.lk.Df ms l=some (ys,ks) ->
  ∃ g,keys g=ks/\∀ G,(∀ p∈g,lk G p.1=some p.2)->(∀ r∈N8 ms l,r∉keys G)->qM X e0 γ0 (keys G) (mO G γ.O) w ms ys us ks
 | [],us,ms,ys,ks,hl,h=>by cases hl; cases h; exact ⟨[],rfl,fun G _ _=> .nil⟩
 | (b,x)::l,us,ms,ys,ks,hl,h=>by
  cases hl with
  | cons hx hl =>
   obtain ⟨u,hu,hb1,X6⟩:=hx
   simp only [Lk.Df] at h
   cases h1:S.lk.uI (nK ms) x with
   | none=>simp [h1] at h
   | some p =>
    obtain ⟨y,k⟩:=p
    cases h2:S.lk.Df (tl ms) l with
    | none=>simp [h1,h2] at h
    | some q =>
     obtain ⟨yl,kl⟩:=q
     simp only [h1,h2,zA,zG] at h
     obtain ⟨rfl,rfl⟩:=h
     obtain ⟨g1,HB,i1⟩:=wc hI hu h1
     obtain ⟨g,hg,ih⟩:=F1 hI hl h2
     refine ⟨g1++g,by rw [bx,HB,hg],fun G hG hs=> .cons (i1 G (fun p hp=>hG p (List.mem_append_left _ hp)) fun r hr=>hs r ?_) hb1 X6 (ih G (fun p hp=>hG p (List.mem_append_right _ hp)) fun r hr=>hs r ?_)⟩
     ·simp only [N8,zH]; exact .inl hr
     ·simp only [N8,zH]; exact .inr hr
theorem RN (hI:Inv X e0 γ0 w0 S γ a w) {v:AV} {u:Value} {rl:List (List Nat)} {rc:RC} {ks:List Nat} (hv:bn S.lk γ v u) (h:S.lk.Mh rl v=some (rc,ks)) :
  ∃ g,keys g=ks/\∀ G,(∀ p∈g,lk G p.1=some p.2)->(∀ r∈S.lk.Wc rl v,r∉keys G)->vu X e0 γ0 (keys G) (mO G γ.O) w rl rc u ks:=by
 cases v with
 | c x =>
  have one:bp S.lk γ x u->(match S.lk.ux (hd (nK rl)) x with | some (y,a)=>some (RC.c y,a) | none=>none)=some (rc,ks)->S.lk.Wc rl (.c x)=CV (nK rl) [x] ->
    ∃ g,keys g=ks/\∀ G,(∀ p∈g,lk G p.1=some p.2)->(∀ r∈S.lk.Wc rl (.c x),r∉keys G)->vu X e0 γ0 (keys G) (mO G γ.O) w rl rc u ks:=by
   intro hx h FH
   cases h1:S.lk.ux (hd (nK rl)) x with
   | none=>rw [h1] at h; cases h
   | some p =>
    obtain ⟨y,k⟩:=p
    rw [h1] at h; cases h
    refine ⟨Wg ks (hd (nK rl)),Bv _ _,fun G hG hs=>JZ hI hx h1 (Fg hG) fun hm r hr=>hs r ?_⟩
    rw [FH]
    simp only [CV,hm,zH]; exact .inl hr
  cases x with
  | un=>cases h
  | pv k c =>
   simp only [Lk.Mh] at h
   revert h; split
   ·rename_i cs h1 h2 h3
    intro h
    have h1:=zQ h1
    have h2:=aF h2
    subst h2
    obtain ⟨_,hu⟩:=hv
    obtain ⟨b1,cur,e,b2,b3⟩:=hI.rel.vs k cs h3
    cases h4:S.lk.uI (nK rl) cs with
    | none=>rw [h4] at h; cases h
    | some p =>
     obtain ⟨y,k'⟩:=p
     rw [h4] at h; cases h
     obtain ⟨g,hg,i1⟩:=wc hI b3 h4
     refine ⟨g,hg,fun G hG hs=>⟨k,γ.vb k,cur,e,h1,hu,?_,b2,i1 G hG fun r hr=>hs r ?_⟩⟩
     ·simp only [mO,b1]; rfl
     ·simp only [Lk.Wc,h3]; exact hr
   ·intro h; cases h
  | b x=>exact one (bn.to hv (by simp)) h rfl
  | i k n=>exact one (bn.to hv (by simp)) h rfl
  | s x=>exact one (bn.to hv (by simp)) h rfl
  | nl τ=>exact one (bn.to hv (by simp)) h rfl
  | sw r=>exact one (bn.to hv (by simp)) h rfl
  | sl r o n=>exact one (bn.to hv (by simp)) h rfl
  | nw r e c=>exact one (bn.to hv (by simp)) h rfl
  | ns r e c o n=>exact one (bn.to hv (by simp)) h rfl
  | pe r e c=>exact one (bn.to hv (by simp)) h rfl
  | pn r e c o n=>exact one (bn.to hv (by simp)) h rfl
  | fn f caps=>exact one (bn.to hv (by simp)) h rfl
 | a l =>
  obtain ⟨us,hu,hl⟩:=hv
  simp only [Lk.Mh] at h
  cases h4:S.lk.uI (nK rl) l with
  | none=>rw [h4] at h; cases h
  | some p =>
   obtain ⟨y,k'⟩:=p
   rw [h4] at h; cases h
   obtain ⟨g,hg,i1⟩:=wc hI hl h4
   exact ⟨g,hg,fun G hG hs=>⟨us,hu,i1 G hG fun r hr=>hs r hr⟩⟩
 | t l =>
  obtain ⟨us,hu,hl⟩:=hv
  cases l with
  | nil =>
   cases hl; cases h
   exact ⟨[],rfl,fun G hG hs=>⟨rfl,hu⟩⟩
  | cons p l =>
   simp only [Lk.Mh] at h
   cases h4:S.lk.Df rl (p::l) with
   | none=>rw [h4] at h; cases h
   | some q =>
    obtain ⟨y,k'⟩:=q
    rw [h4] at h; cases h
    obtain ⟨g,hg,i1⟩:=F1 hI hl h4
    exact ⟨g,hg,fun G hG hs=>⟨us,hu,i1 G hG fun r hr=>hs r hr⟩⟩
 | g p q v=>cases h
theorem J6 (hI:Inv X e0 γ0 w0 S γ a w) {k:Nat}:∀ {l:List Cv} {us:List Value} {ms:List Nat} {j:Nat} {ys:List Ct} {ks:List Nat},b9 S.lk γ l us->S.lk.L4 k j ms l=some (ys,ks) ->
  ∃ g,keys g=ks/\∀ G,(∀ p∈g,lk G p.1=some p.2)->pJ X γ0 (mO G γ.O) w (300000+k*64+j) ms ys us ks
 | [],us,ms,j,ys,ks,hl,h=>by cases hl; cases h; exact ⟨[],rfl,fun G _=> .nil⟩
 | x::l,us,ms,j,ys,ks,hl,h=>by
  cases hl with
  | cons hx hl =>
   rename_i v us
   simp only [Lk.L4] at h
   cases h2:S.lk.L4 k (j+1) (tl ms) l with
   | none=>rw [h2] at h; cases h
   | some q =>
    obtain ⟨yl,kl⟩:=q
    rw [h2] at h; simp only at h
    obtain ⟨g,hg,ih⟩:=J6 hI hl h2
    have fin:∀ {y:Ct} {k1:List Nat} {ys:List Ct} {ks:List Nat},(∀ G,(∀ r∈k1,lk G r=some (hd ms))->sW X γ0 (mO G γ.O) w (300000+k*64+j) (hd ms) y v k1)->some (y::yl,k1++kl)=some (ys,ks) ->
      ∃ g,keys g=ks/\∀ G,(∀ p∈g,lk G p.1=some p.2)->pJ X γ0 (mO G γ.O) w (300000+k*64+j) ms ys (v::us) ks:=by
     intro y k1 ys ks hr h
     cases h
     exact ⟨Wg k1 (hd ms)++g,by rw [bx,Bv,hg],fun G hG=> .cons (hr G (Fg fun p hp=>hG p (List.mem_append_left _ hp))) (ih G fun p hp=>hG p (List.mem_append_right _ hp))⟩
    revert h; split
    ·rename_i hm
     split
     ·intro h; exact fin (k1:=[]) (fun G _=>by rw [hm]; exact ⟨rfl,hx,trivial⟩) h
     ·intro h; exact fin (k1:=[]) (fun G _=>by rw [hm]; exact ⟨rfl,hx,trivial⟩) h
     ·intro h; exact fin (k1:=[]) (fun G _=>by rw [hm]; exact ⟨rfl,hx,trivial⟩) h
     ·intro h; cases h
    ·rename_i hm
     split
     ·rename_i r
      split
      ·rename_i y h1 h3
       intro h
       simp only [zB] at h1
       have Fx:=aF h1.1
       have hr4:=zQ h1.2.1
       obtain ⟨row,hr,ho⟩:=BG h1.2.2
       obtain ⟨_,hv⟩:=hx
       obtain ⟨_,i2,_⟩:=hI.i3 r row (by omega) (by omega) hr ho
       refine fin (k1:=[]) (fun G _=> ?_) h
       rw [hm]; exact ⟨rfl,by rw [hv,i2,Fx]⟩
      ·intro h; cases h
     ·intro h; cases h
    ·rename_i hm0 hm1
     have big:∀ {τ:Ty} {xs:List (El τ)} {k1:List Nat} (G:List (Nat×Nat)),rL (hd ms)=true->Md X (mO G γ.O) w (hd ms) τ xs v k1->sW X γ0 (mO G γ.O) w (300000+k*64+j) (hd ms) (.l τ xs) v k1:=by
      intro τ xs k1 G h1 h2
      simp only [sW]
      revert h1 h2
      generalize hd ms=md at hm0 hm1
      intro h1 h2
      rcases l9 h1 with rfl | rfl | rfl<;>exact ⟨h1,h2⟩
     split
     ·rename_i τ
      cases zo:rL (hd ms) with
      | false=>intro h; cases h
      | true=>intro h; exact fin (k1:=[]) (fun G _=>big G zo (.inl ⟨rfl,hx,rfl⟩)) h
     ·rename_i r
      obtain ⟨⟨row,hr⟩,hv⟩:=hx
      rw [hr]; simp only
      cases zo:rL (hd ms) with
      | false=>intro h; cases h
      | true =>
       cases hle:nO (hd ms) row.ow with
       | false=>intro h; cases h
       | true =>
        intro h
        refine fin (k1:=[r]) (fun G hG=>big G zo (.inr ⟨r,γ.cv r,rfl,?_⟩)) h
        rw [hv]
        exact tx hI.rel hr (hG r (by simp)) hle
     ·intro h; cases h
theorem F0 (hI:Inv X e0 γ0 w0 S γ a w):∀ {ms:List (List Nat)} {k:Nat} {vo:List (List Ct)} {ks:List Nat},k+ms.length<=1000->S.lk.Ds k ms=some (vo,ks) ->
  ∃ g,keys g=ks/\∀ G,(∀ p∈g,lk G p.1=some p.2)->wB X γ0 (mO G γ.O) w k ms vo ks
 | [],k,vo,ks,hk,h=>by cases h; exact ⟨[],rfl,fun G _=> .nil⟩
 | wd::ms,k,vo,ks,hk,h=>by
  simp only [zR] at hk
  simp only [Lk.Ds] at h
  cases h1:S.lk.v k with
  | none=>simp [h1] at h
  | some cs =>
   cases h2:S.lk.Ds (k+1) ms with
   | none=>simp [h1,h2] at h
   | some q =>
    obtain ⟨yl,kl⟩:=q
    simp only [h1,h2] at h
    cases h3:S.lk.L4 k 0 wd cs with
    | none=>rw [h3] at h; cases h
    | some p =>
     obtain ⟨y,k1⟩:=p
     rw [h3] at h; cases h
     obtain ⟨b1,cur,e,b2,b3⟩:=hI.rel.vs k cs h1
     obtain ⟨g1,HB,i1⟩:=J6 hI b3 h3
     obtain ⟨g,hg,ih⟩:=F0 hI (by omega) h2
     have FF:=hI.i2 k (by omega)
     refine ⟨g1++g,by rw [bx,HB,hg],fun G hG=> .cons (cur:=cur) (e:=e) ?_ ?_ (i1 G fun p hp=>hG p (List.mem_append_left _ hp)) (ih G fun p hp=>hG p (List.mem_append_right _ hp))⟩
     ·simp only [mO]; rw [← FF,b1]; rfl
     ·rw [← FF]; exact b2
theorem Bp (hI:Inv X e0 γ0 w0 S γ a w):∀ {cb:List AC} {p:Nat} {ys:List Ct} {ks:List Nat},S.lk.yG p cb=some (ys,ks) ->
  ∃ g,keys g=ks/\∀ G,(∀ p∈g,lk G p.1=some p.2)->ry X γ0 (mO G γ.O) w p cb ys ks
 | [],p,ys,ks,h=>by cases h; exact ⟨[],rfl,fun G _=> .nil⟩
 | x::l,p,ys,ks,h=>by
  have skip:(∀ τ xs,x≠ .io τ xs)->S.lk.yG (p+1) l=some (ys,ks)->∃ g,keys g=ks/\∀ G,(∀ p∈g,lk G p.1=some p.2)->ry X γ0 (mO G γ.O) w p (x::l) ys ks:=by
   intro hx h
   obtain ⟨g,hg,ih⟩:=Bp hI h
   exact ⟨g,hg,fun G hG=> .skip hx (ih G hG)⟩
  cases x with
  | io τ xs =>
   simp only [Lk.yG] at h
   cases h1:S.lk.r (200000+p*64) with
   | none=>simp [h1] at h
   | some row =>
    cases h2:S.lk.yG (p+1) l with
    | none=>simp [h1,h2] at h
    | some q =>
     obtain ⟨yl,kl⟩:=q
     simp only [h1,h2] at h
     revert h; split
     ·rename_i h3 h4
      intro h; cases h
      simp only [zB] at h3
      have ho:=aF h3.1
      have hp:=zQ h3.2
      have hτ:=Al h4
      obtain ⟨σ,zs,ow⟩:=row
      simp only at ho hτ; subst ho; subst hτ
      obtain ⟨g,hg,ih⟩:=Bp hI h2
      refine ⟨(200000+p*64,5)::g,by simp [keys,hg],fun G hG=> .io (cs:=γ.cv (200000+p*64)) ?_ (ih G fun q hq=>hG q (zJ _ hq))⟩
      have:=tx hI.rel (G:=G) h1 (d:=5) (hG (200000+p*64,5) zO) rfl
      rw [hI.i4 _ (by omega) (by omega)] at this
      exact this
     ·intro h; cases h
  | c y=>exact skip (by simp) h
  | a ys=>exact skip (by simp) h
  | p k=>exact skip (by simp) h
  | f g ks=>exact skip (by simp) h
  | al k c=>exact skip (by simp) h
theorem U2 (hI:Inv X e0 γ0 w0 S γ a w) {g:tE} {cb:List AC} {cJ:List (List Ct)} {f:Func} {cr:CR} {u:Value} (he0:e0=(entry g cb cJ).lk) {v:AV} (hv:bn S.lk γ v u)
  (bR:IS X S f.results.toList=some v) (h:S.out X g cb f=some cr):ER X g cb cJ γ0 w0 cr u w:=by
 simp only [St.out,bR] at h
 cases h1:S.lk.Mh g.rl v with
 | none=>simp [h1] at h
 | some p1 =>
  obtain ⟨rc,ka⟩:=p1
  cases h2:S.lk.Ds 0 g.vl with
  | none=>simp [h1,h2] at h
  | some p2 =>
   obtain ⟨vo,kb⟩:=p2
   cases h3:S.lk.yG 0 cb with
   | none=>simp [h1,h2,h3] at h
   | some p3 =>
    obtain ⟨io,kc⟩:=p3
    simp only [h1,h2,h3] at h
    cases hc:fB (ka++(kb++kc))&&(jr (S.lk.Wc g.rl v) (ka++(kb++kc))&&Nat.ble g.vl.length 1000) with
    | false=>rw [hc] at h; cases h
    | true =>
     rw [hc] at h; cases h
     simp only [zB] at hc
     have HN:=gH.1 hc.1
     have FH:=eI.1 hc.2.1
     have M4:=zQ hc.2.2
     obtain ⟨g1,k1,i1⟩:=RN hI hv h1
     obtain ⟨g2,k2,i2⟩:=F0 hI (k:=0) (by omega) h2
     obtain ⟨g3,k3,i3⟩:=Bp hI h3
     have hk:keys (g1++(g2++g3))=ka++(kb++kc):=by simp only [bx,k1,k2,k3]
     have hG:∀ p∈g1++(g2++g3),lk (g1++(g2++g3)) p.1=some p.2:=fun p hp=>gg (by rw [hk]; exact HN) hp
     refine ⟨mO (g1++(g2++g3)) γ.O,ka,kb,kc,⟨hI.fr.os,hI.fr.tape,hI.fr.output,hI.fr.size,fun b hb ho=> ?_,fun b hb=> ?_⟩,HN,?_,?_,?_⟩
     ·obtain ⟨b1,b2⟩:=hI.fr.oO b hb ho
      refine ⟨?_,b2⟩
      simp only [mO]
      rw [b1]
      rcases ho with ho | ho | ho<;>rw [ho]<;>rfl
     ·simp only [mO]; rw [hI.fr.top b hb]; rfl
     ·rw [← hk,← he0]
      exact i1 _ (fun p hp=>hG p (List.mem_append_left _ hp)) fun r hr=>by rw [hk]; exact FH r hr
     ·exact i2 _ fun p hp=>hG p (List.mem_append_right _ (List.mem_append_left _ hp))
     ·exact i3 _ fun p hp=>hG p (List.mem_append_right _ (List.mem_append_right _ hp))
end
end Go.Soft
namespace Go.Soft
open Go
variable {X X':Ctx} {m M:Lk} {γ γ':Gh} {w w':World} {ρ:Operand->Value} {S T:St} {δ δ':Dl}
section
theorem Sl.cx (oQ:X'.id=X.id) {O:OM} {c:Ev} {τ:Ty} {v:Value} {n:Nat} {cs:List Value} (h:Sl X O w c τ v n cs):Sl X' O w c τ v n cs:=by
 cases c with
 | own t=>exact ⟨by rw [oQ]; exact h.1,h.2⟩
 | _=>exact h
theorem cS.cx (oQ:X'.id=X.id) {O:OM} {k:Nat} {row:Row} {v:Value} {cs:List Value} (h:cS X O w k row v cs):cS X' O w k row v cs:=by
 refine ⟨h.top.cx oQ,fun e c ct he hc=> ?_⟩
 obtain ⟨u,hu,hr⟩:=h.rA e c ct he hc
 refine ⟨u,hu,?_⟩
 cases ct with
 | u=>exact hr
 | l τ ys=>exact ⟨hr.1,hr.2.cx oQ⟩
 | _=>exact hr
theorem Rel.cx (oQ:X'.id=X.id) (h:Rel X m γ w):Rel X' m γ w:=⟨h.vs,fun k row hk=>(h.rs k row hk).cx oQ⟩
theorem Ti.cx (oQ:X'.id=X.id) {g:tE} {cb:List AC} {cJ:List (List Ct)} {args:List Value} (h:Ti X g cb cJ γ w args):Ti X' g cb cJ γ w args:=⟨h.rel.cx oQ,h.top,h.args⟩
theorem Md.cx (oQ:X'.id=X.id) {O:OM} {md:Nat} {τ:Ty} {xs:List (El τ)} {v:Value} {ks:List Nat} (h:Md X O w md τ xs v ks):Md X' O w md τ xs v ks:=by
 rcases h with h | ⟨key,cs,h1,h2⟩
 ·exact .inl h
 ·exact .inr ⟨key,cs,h1,h2.cx oQ⟩
variable {e0:Lk} {γ0:Gh} {K:List Nat} {O:OM}
theorem rF.cx (oQ:X'.id=X.id) {md:Nat} {y:Rc} {v:Value} {ks:List Nat} (h:rF X e0 γ0 K O w md y v ks):rF X' e0 γ0 K O w md y v ks:=by
 cases y with
 | c ct =>
  cases ct with
  | l τ xs=>exact ⟨h.1,h.2.cx oQ⟩
  | _=>exact h
 | _=>exact h
theorem m8.cx (oQ:X'.id=X.id) {ms:List Nat} {y:List Rc} {v:List Value} {ks:List Nat} (h:m8 X e0 γ0 K O w ms y v ks):m8 X' e0 γ0 K O w ms y v ks:=by
 induction h with
 | nil=>exact .nil
 | cons h1 _ ih=>exact .cons (h1.cx oQ) ih
theorem qM.cx (oQ:X'.id=X.id) {ms:List (List Nat)} {y:List (Bool×List Rc)} {v:List Value} {ks:List Nat} (h:qM X e0 γ0 K O w ms y v ks):qM X' e0 γ0 K O w ms y v ks:=by
 induction h with
 | nil=>exact .nil
 | cons h1 h2 h3 _ ih=>exact .cons (h1.cx oQ) h2 h3 ih
theorem vu.cx (oQ:X'.id=X.id) {rl:List (List Nat)} {y:RC} {v:Value} {ks:List Nat} (h:vu X e0 γ0 K O w rl y v ks):vu X' e0 γ0 K O w rl y v ks:=by
 cases y with
 | u=>exact h
 | c x=>exact rF.cx oQ h
 | a l=>obtain ⟨us,h1,h2⟩:=h; exact ⟨us,h1,h2.cx oQ⟩
 | t l=>obtain ⟨us,h1,h2⟩:=h; exact ⟨us,h1,h2.cx oQ⟩
 | np l=>obtain ⟨cv,g,cur,e,h1,h2,h3,h4,h5⟩:=h; exact ⟨cv,g,cur,e,h1,h2,h3,h4,h5.cx oQ⟩
theorem sW.cx (oQ:X'.id=X.id) {key md:Nat} {y:Ct} {v:Value} {ks:List Nat} (h:sW X γ0 O w key md y v ks):sW X' γ0 O w key md y v ks:=by
 revert h
 simp only [sW]
 split
 ·exact id
 ·exact id
 ·split
  ·exact fun h=>⟨h.1,h.2.cx oQ⟩
  ·exact id
theorem pJ.cx (oQ:X'.id=X.id) {k:Nat} {ms:List Nat} {y:List Ct} {v:List Value} {ks:List Nat} (h:pJ X γ0 O w k ms y v ks):pJ X' γ0 O w k ms y v ks:=by
 induction h with
 | nil=>exact .nil
 | cons h1 _ ih=>exact .cons (h1.cx oQ) ih
theorem wB.cx (oQ:X'.id=X.id) {k:Nat} {ms:List (List Nat)} {y:List (List Ct)} {ks:List Nat} (h:wB X γ0 O w k ms y ks):wB X' γ0 O w k ms y ks:=by
 induction h with
 | nil=>exact .nil
 | cons h1 h2 h3 _ ih=>exact .cons h1 h2 (h3.cx oQ) ih
theorem ry.cx (oQ:X'.id=X.id) {p:Nat} {cb:List AC} {y:List Ct} {ks:List Nat} (h:ry X γ0 O w p cb y ks):ry X' γ0 O w p cb y ks:=by
 induction h with
 | nil=>exact .nil
 | io h1 _ ih=>exact .io (h1.cx oQ) ih
 | skip h1 _ ih=>exact .skip h1 ih
theorem ER.cx (oQ:X'.id=X.id) {g:tE} {cb:List AC} {cJ:List (List Ct)} {cr:CR} {v:Value} (h:ER X g cb cJ γ0 w cr v w'):ER X' g cb cJ γ0 w cr v w':=by
 obtain ⟨O,ka,kb,kc,h1,h2,h3,h4,h5⟩:=h
 exact ⟨O,ka,kb,kc,h1,h2,h3.cx oQ,h4.cx oQ,h5.cx oQ⟩
end
theorem Ar.at {R:Type} {g:tE} {f:FuncId} {F:zi R} (h:Ar X g f F) (fn:Func):Ar (X.at fn) g f F :=
 ⟨h.FC,fun cb cJ cr hF γ w args hp=>(h.ok cb cJ cr hF γ w args (Ti.cx (X:=X.at fn) (X':=X) rfl hp)).mono fun e w' ⟨v,h1,h2⟩=>⟨v,h1,ER.cx (X:=X) (X':=X.at fn) rfl h2⟩⟩
theorem te.at {R:Type} {E:Env R} (h:te X E) (fn:Func):te (X.at fn) E:=⟨fun f g hg=>⟨(h.fn f g hg).1.at fn,(h.fn f g hg).2⟩,h.FC⟩
theorem iy.at (h:iy X) (fn:Func):iy (X.at fn):=⟨h.ty,h.id,h.byte,h.eqs,h.mixed⟩
def Br (tmps:Array Value):ResultVar->Sem Value
 | .tmp t=>pure (tmps.getD t undef)
 | .cell a t=>do loadVar t (← asAddr (tmps.getD a undef))
theorem Ha {a:Act} (hR:Rel X S.lk γ w) (hT:E7 X S γ a) {r:ResultVar} {v:AV} (h:Bo X S r=some v):∃ u,(Br a.tmps r).run X.P w= .ok u w/\bn S.lk γ v u:=by
 cases r with
 | tmp t=>cases h; exact ⟨_,rfl,E0 hT t⟩
 | cell t T =>
  simp only [Bo] at h
  have hg:=E0 hT t
  revert h; split
  ·rename_i c hc
   rw [hc] at hg
   cases hf:S.lk.from c with
   | none=>intro h; cases h
   | some cs =>
    simp only
    cases hb:Nat.ble (fV X.P T) cs.length&&CI X.P T with
    | false=>intro h; cases h
    | true =>
     intro h; cases h
     simp only [zB] at hb
     have cL:c≠ .un:=fun e=>by subst e; cases hf
     have oU:=bn.to hg cL
     obtain ⟨g,o,us,hp,_,_⟩:=Kp (Le.refl _) hR oU hf
     obtain ⟨u,hu,QM⟩:=KD (Le.refl _) hR oU hf hb.1 hb.2
     refine ⟨u,?_,QM⟩
     rw [hp] at hu
     simp only [Br,hp,asAddr]
     simpa [Instr.loadAt,Instr.sureAddr] using hu
  ·intro h; cases h
theorem Hu {a:Act} (hR:Rel X S.lk γ w) (hT:E7 X S γ a):∀ {l:List ResultVar} {v:List (Bool×List Cv)},sP X S l=some v->∃ us,(l.mapM (Br a.tmps)).run X.P w= .ok us w/\sT S.lk γ v us/\us.length=l.length
 | [],v,h=>by cases h; exact ⟨[],by simp,.nil,rfl⟩
 | r::l,v,h=>by
  simp only [sP] at h
  cases h1:Bo X S r with
  | none=>simp [h1] at h
  | some x =>
   cases h2:sP X S l with
   | none=>rw [h1,h2] at h; revert h; split<;>simp_all
   | some y =>
    obtain ⟨u,hu,QM⟩:=Ha hR hT h1
    obtain ⟨us,Sz,ML,hl⟩:=Hu hR hT h2
    refine ⟨u::us,?_,?_,by simp [hl]⟩
    ·simp only [List.mapM_cons,Sem.run_bind,hu,Result.andThen_ok,Sz,Sem.run_pure]
    ·rw [h1,h2] at h
     cases x with
     | c z =>
      by_cases hz:z= .un
      ·subst hz; simp at h
      ·have Y7:v=(false,[z])::y:=by cases z<;>first | exact absurd rfl hz | (simp only [zA] at h; exact h.symm)
       subst Y7
       exact .cons ⟨[u],.cons (bn.to QM hz) .nil,fun h=>(by cases h),fun _=>rfl⟩ ML
     | a z =>
      simp only [zA] at h
      subst h
      obtain ⟨us',h3,h4⟩:=QM
      exact .cons ⟨us',h4,fun _=>h3,fun h=>(by cases h)⟩ ML
     | t z=>simp at h
     | g p q z=>simp at h
theorem RO {a:Act} (hR:Rel X S.lk γ w) (hT:E7 X S γ a) {fn:Func} {v:AV} (h:IS X S fn.results.toList=some v):∃ u,(results fn a.tmps).run X.P w= .ok u w/\bn S.lk γ v u:=by
 have bR:∀ us,(fn.results.toList.mapM (Br a.tmps)).run X.P w= .ok us w->(results fn a.tmps).run X.P w= .ok (if h:us.toArray.size=1 then us.toArray[0] else .tuple us.toArray) w:=by
  intro us Sz
  have e:results fn a.tmps=(do
    let vs←fn.results.mapM (Br a.tmps)
    pure (if h:vs.size=1 then vs[0] else .tuple vs)):=by
   simp only [results]
   congr 1
  rw [e,Array.mapM_eq_mapM_toList]
  simp only [Sem.run_bind,map_eq_pure_bind,bind_assoc,pure_bind,Sz,Result.andThen_ok,Sem.run_pure]
 revert h bR
 generalize fn.results.toList=l
 intro h bR
 have many:sP X S l=some (match v with | .t m=>m | _=>[])->(∃ m,v= .t m)->l.length≠1->∃ u,(results fn a.tmps).run X.P w= .ok u w/\bn S.lk γ v u:=by
  intro h1 hv hl
  obtain ⟨m,rfl⟩:=hv
  obtain ⟨us,Sz,ML,hlen⟩:=Hu hR hT h1
  refine ⟨_,bR us Sz,?_⟩
  rw [dif_neg (by simp; omega)]
  exact ⟨us,rfl,ML⟩
 have step:(match sP X S l with | some m=>some (AV.t m) | none=>none)=some v->l.length≠1->∃ u,(results fn a.tmps).run X.P w= .ok u w/\bn S.lk γ v u:=by
  intro h1 hl
  cases h2:sP X S l with
  | none=>rw [h2] at h1; cases h1
  | some m=>rw [h2] at h1; cases h1; exact many h2 ⟨m,rfl⟩ hl
 match l,h,bR,step with
 | [r],h,bR,_ =>
  obtain ⟨u,hu,QM⟩:=Ha hR hT h
  exact ⟨u,by simpa using bR [u] (by simp [hu]),QM⟩
 | [],h,_,step=>exact step h (by simp)
 | _::_::_,h,_,step=>exact step h (by simp)
theorem EX:∀ (l:List AV) (n t:Nat),lk (IY n l) t=if n<=t then l[t-n]? else none
 | [],n,t=>by simp [IY,lk]
 | v::l,n,t=>by
  simp only [IY,lk,EX l (n+1) t]
  cases h:Nat.beq n t with
  | true=>have:=aF h; subst this; simp
  | false =>
   have cL:n≠t:=fun e=>by subst e; rw [Nat.beq_refl] at h; cases h
   by_cases h1:n+1<=t
   ·rw [if_pos h1,if_pos (by omega),show t-n=(t-(n+1))+1 by omega]; simp
   ·rw [if_neg h1,if_neg (by omega)]
theorem Oo {g:tE} {cb:List AC} {cJ:List (List Ct)}:o9 (entry g cb cJ):=by
 intro t p q v h
 have h:lk (IY 0 (rN g.am 0 cb).1) t=some (.g p q v):=h
 rw [EX,if_pos (Nat.zero_le _),wM] at h
 cases hx:cb[t-0]? with
 | none=>rw [hx] at h; cases h
 | some x=>rw [hx] at h; cases x<;>simp [C9] at h
variable {R:Type} {E:Env R}
theorem WE (r0:R) (hX:iy X) (hE:te X E) {L:Live} {g:tE} {f:FuncId} {fn:Func} {body:Code} {lps:Nat->Loop R} {F:zi R}
  (hf:X.P.funcs[f]? =some fn) (hb:fn.body=some body) (hl:Gf (X.at fn) E L body lps)
  (hF:∀ cb cJ,F cb cJ=(fun _=>none)\/∃ n,F cb cJ=DK X E L (lps n) g fn cb cJ):Ar X g f F:=by
 have hXf:=hX.at fn
 have Ze:=hE.at fn
 have euni:∀ n c s,gq (fun k:Ex×St->Option R=>exec (X.at fn) E L (lps n) c s fun e s=>k (e,s)):=fun n c s=>jq Ze.FC (fun c i l=>wj Ze.FC hl n c i l) c s
 let G:List AC->(CR->Option R)->Ex×St->Option R:=fun cb k x=>match x.1 with
  | .exit _=>none
  | _=>match x.2.out (X.at fn) g cb fn with | some r=>k r | none=>none
 have ni:∀ n cb cJ k,DK X E L (lps n) g fn cb cJ k=exec (X.at fn) E L (lps n) body (entry g cb cJ) fun e s=>(match e with
   | .exit _=>none
   | _=>match s.out X g cb fn with | some r=>k r | none=>none):=by
  intro n cb cJ k; simp only [DK,hb]; rfl
 have vL:∀ (s:St) (cb:List AC),s.out (X.at fn) g cb fn=s.out X g cb fn:=fun s cb=>by
  have h1:∀ r,Bo (X.at fn) s r=Bo X s r:=fun r=>by cases r<;>rfl
  have h2:∀ l,sP (X.at fn) s l=sP X s l:=by
   intro l
   induction l with
   | nil=>rfl
   | cons r l ih=>simp only [sP,h1,ih]
  have h3:∀ l,IS (X.at fn) s l=IS X s l:=by
   intro l
   simp only [IS,h1,h2]
  simp only [St.out,h3]
 have TI:∀ n cb cJ k,DK X E L (lps n) g fn cb cJ k=(fun k:Ex×St->Option R=>exec (X.at fn) E L (lps n) body (entry g cb cJ) fun e s=>k (e,s)) (G cb k):=by
  intro n cb cJ k
  rw [ni]
  show exec (X.at fn) E L (lps n) body (entry g cb cJ) _=exec (X.at fn) E L (lps n) body (entry g cb cJ) _
  congr 1
  funext e s
  show _=(match e with
   | .exit _=>none
   | _=>match s.out (X.at fn) g cb fn with | some r=>k r | none=>none)
  rw [vL]
 have hGu:∀ cb x,gq (fun k=>G cb k x):=by
  intro cb x
  obtain ⟨e,s⟩:=x
  have:gq (fun k:CR->Option R=>match s.out (X.at fn) g cb fn with | some r=>k r | none=>none):=by
   cases s.out (X.at fn) g cb fn with
   | none=>exact gq.none
   | some r=>exact gq.one r
  cases e with
  | exit i=>exact gq.none
  | normal=>exact this
  | ret=>exact this
 refine ⟨fun cb cJ=> ?_,fun cb cJ cr hK γ w args hp=> ?_⟩
 ·rcases hF cb cJ with h | ⟨n,h⟩
  ·rw [h]; exact gq.none
  ·rw [h]
   have:=(euni n body (entry g cb cJ)).bind (F:=fun x k=>G cb k x) (hGu cb)
   obtain ⟨o,ho⟩:=this
   exact ⟨o,fun k=>by rw [TI]; exact ho k⟩
 ·rcases hF cb cJ with h | ⟨n,h⟩
  ·rw [h] at hK; exact (bN r0 hK).elim
  ·rw [h] at hK
   obtain ⟨oc,rh⟩:=euni n body (entry g cb cJ)
   have QH:∀ k,oc.bind (G cb k)=k cr:=fun k=>by
    rw [← hK k,TI]; exact (rh (G cb k)).symm
   cases oc with
   | none=>exact (bN r0 QH).elim
   | some x =>
    obtain ⟨e,s⟩:=x
    have cL:(e= .normal\/e= .ret)/\s.out (X.at fn) g cb fn=some cr:=by
     have X9:(∀ k:CR->Option R,(match s.out (X.at fn) g cb fn with | some r=>k r | none=>none)=k cr)->s.out (X.at fn) g cb fn=some cr:=by
      intro h
      cases ho:s.out (X.at fn) g cb fn with
      | none=>rw [ho] at h; exact (bN r0 h).elim
      | some r=>rw [ho] at h; rw [iR r0 h]
     cases e with
     | exit i=>exact (bN r0 QH).elim
     | normal=>exact ⟨.inl rfl,X9 QH⟩
     | ret=>exact ⟨.inr rfl,X9 QH⟩
    obtain ⟨he,ho⟩:=cL
    have Zm:=Ti.cx (X:=X) (X':=X.at fn) rfl hp
    refine calls_of_wp hf hb ?_
    have P9:=lC.get Zm.args
    have hI:Inv (X.at fn) (entry g cb cJ).lk γ w (entry g cb cJ) γ { tmps:=args.toArray++Array.replicate (fn.ntmps-args.toArray.size) undef,defers:=[] } w:=by
     refine ⟨Zm.rel,Zm.top,⟨?_,fun t av ht=> ?_⟩,rfl,⟨rfl,rfl,rfl,Nat.le_refl _,fun _ _ _=>⟨rfl,rfl⟩,Zm.top⟩,fun k row _ _ h _=>⟨h,rfl,rfl⟩,fun _ _ _=>rfl,fun _ _=>rfl⟩
     ·show fn.ntmps<=_
      simp; omega
     ·have ht:lk (IY 0 (rN g.am 0 cb).1) t=some av:=ht
      rw [EX,if_pos (Nat.zero_le _)] at ht
      obtain ⟨u,hu,hr⟩:=P9.2 t av (by simpa using ht)
      have fP:t<args.length:=(zU.1 hu).1
      have:(args.toArray++Array.replicate (fn.ntmps-args.toArray.size) undef).getD t undef=u:=by
       rw [Array.getD_eq_getD_getElem?,Array.getElem?_append_left (by simpa using fP)]
       simp [hu]
      rw [this]; exact hr
    refine qN r0 hXf Ze hl (lpR r0 hXf Ze hl n) body (entry g cb cJ) e s γ _ w _ (fun d hd=>Bi hl.nd hd) Oo hI rh fun hg γ' a' w' Nn=> ?_
    have xu:a'.defers=[]/\∃ v,(results fn a'.tmps).run X.P w'= .ok v w'/\∃ v',Ending.returned v= .returned v'/\ER X g cb cJ γ w cr v' w':=by
     refine ⟨Nn.df,?_⟩
     cases hv:IS (X.at fn) s fn.results.toList with
     | none=>simp [St.out,hv] at ho
     | some v =>
      obtain ⟨u,hu,QM⟩:=RO Nn.rel Nn.tmp hv
      exact ⟨u,hu,u,rfl,ER.cx (X:=X.at fn) (X':=X) rfl (U2 Nn rfl QM hv ho)⟩
    rcases he with rfl | rfl
    ·exact xu
    ·exact xu
end Go.Soft
namespace Go.Soft
open Go
inductive VT | b | i (k:IntKind) | s | l (τ:Ty) | n
def VT.T:VT->Type
 | .b=>Bool | .i _=>Int | .s=>ByteArray | .l τ=>List (El τ) | .n=>Nat
def HL:List VT->Type
 | []=>Unit
 | t::ts=>t.T×HL ts
def yU:(τ σ:Ty)->List (El σ)->Option (List (El τ))
 | .int,.int,x=>some x | .bool,.bool,x=>some x | .byte,.byte,x=>some x | .str,.str,x=>some x | .slot,.slot,x=>some x | .inode,.inode,x=>some x
 | .block,.block,x=>some x | .dep,.dep,x=>some x | .node,.node,x=>some x | .event,.event,x=>some x
 | _,_,_=>none
theorem BQ {τ σ:Ty} {x:List (El σ)} {y:List (El τ)} (h:yU τ σ x=some y):m7.l σ x=m7.l τ y/\Ct.l σ x=Ct.l τ y:=by
 cases τ<;>cases σ<;>simp only [yU,zA,reduceCtorEq] at h<;>subst h<;>exact ⟨rfl,rfl⟩
def m7.UX:m7->Option Bool | .b x=>some x | _=>none
def m7.UD (k:IntKind):m7->Option Int | .i k' x=>(match FE k k' with | true=>some x | false=>none) | _=>none
def m7.UP:m7->Option ByteArray | .s x=>some x | _=>none
def m7.lB (τ:Ty):m7->Option (List (El τ)) | .l σ x=>yU τ σ x | _=>none
def m7.ZZ:m7->Option Nat | .n x=>some x | _=>none
def VT.dec:(t:VT)->m7->Option t.T
 | .b,v=>v.UX
 | .i k,v=>v.UD k
 | .s,v=>v.UP
 | .l τ,v=>v.lB τ
 | .n,v=>v.ZZ
def VT.enc:(t:VT)->t.T->m7
 | .b,x=> .b x | .i k,x=> .i k x | .s,x=> .s x | .l τ,x=> .l τ x | .n,x=> .n x
theorem VT.Jh {t:VT} {v:m7} {x:t.T} (h:t.dec v=some x):v=t.enc x:=by
 cases t with
 | b =>
  cases v with
  | b y=>cases (h:some y=some x); rfl
  | _=>cases h
 | i k =>
  cases v with
  | i k' y =>
   have h:(match FE k k' with | true=>some y | false=>none)=some x:=h
   cases hk:FE k k' with
   | false=>rw [hk] at h; cases h
   | true=>rw [hk] at h; cases h; rw [qT hk]; rfl
  | _=>cases h
 | s =>
  cases v with
  | s y=>cases (h:some y=some x); rfl
  | _=>cases h
 | l τ =>
  cases v with
  | l σ y=>exact (BQ (h:yU τ σ y=some x)).1
  | _=>cases h
 | n =>
  cases v with
  | n y=>cases (h:some y=some x); rfl
  | _=>cases h
def IC:(ts:List VT)->List m7->Option (HL ts)
 | [],[]=>some ()
 | t::ts,v::l=>match t.dec v with
  | some x=>match IC ts l with | some y=>some (x,y) | none=>none
  | none=>none
 | _,_=>none
def Oa:(ts:List VT)->HL ts->List m7
 | [],_=>[]
 | t::ts,(x,y)=>t.enc x::Oa ts y
theorem Ku:∀ {ts:List VT} {l:List m7} {h:HL ts},IC ts l=some h->l=Oa ts h
 | [],[],_,_=>rfl
 | [],_::_,_,h=>by cases h
 | _::_,[],_,h=>by cases h
 | t::ts,v::l,(x,y),h=>by
  simp only [IC] at h
  cases hv:t.dec v with
  | none=>rw [hv] at h; cases h
  | some x' =>
   cases hl:IC ts l with
   | none=>rw [hv,hl] at h; cases h
   | some y' =>
    rw [hv,hl] at h
    simp only [zA,zG] at h
    obtain ⟨rfl,rfl⟩:=h
    simp only [Oa]
    rw [VT.Jh hv,Ku hl]
def Ct.UX:Ct->Option Bool | .b x=>some x | _=>none
def Ct.UD (k:IntKind):Ct->Option Int | .i k' x=>(match FE k k' with | true=>some x | false=>none) | _=>none
def Ct.UP:Ct->Option ByteArray | .s x=>some x | _=>none
def Ct.lB (τ:Ty):Ct->Option (List (El τ)) | .l σ x=>yU τ σ x | _=>none
def VT.Rm:(t:VT)->Ct->Option t.T
 | .b,v=>v.UX
 | .i k,v=>v.UD k
 | .s,v=>v.UP
 | .l τ,v=>v.lB τ
 | .n,_=>none
def VT.UN:(t:VT)->t.T->Ct
 | .b,x=> .b x | .i k,x=> .i k x | .s,x=> .s x | .l τ,x=> .l τ x | .n,_=> .u
theorem VT.RM {t:VT} {v:Ct} {x:t.T} (h:t.Rm v=some x):v=t.UN x:=by
 cases t with
 | b =>
  cases v with
  | b y=>cases (h:some y=some x); rfl
  | _=>cases h
 | i k =>
  cases v with
  | i k' y =>
   have h:(match FE k k' with | true=>some y | false=>none)=some x:=h
   cases hk:FE k k' with
   | false=>rw [hk] at h; cases h
   | true=>rw [hk] at h; cases h; rw [qT hk]; rfl
  | _=>cases h
 | s =>
  cases v with
  | s y=>cases (h:some y=some x); rfl
  | _=>cases h
 | l τ =>
  cases v with
  | l σ y=>exact (BQ (h:yU τ σ y=some x)).2
  | _=>cases h
 | n=>cases h
def CT:List (Option VT)->Type
 | []=>Unit
 | some t::ts=>t.T×CT ts
 | none::ts=>CT ts
def Ct.isU:Ct->Bool | .u=>true | _=>false
def rq:(ts:List (Option VT))->List Ct->Option (CT ts)
 | [],l=>(match l with | []=>some () | _=>none)
 | some t::ts,l=>(match l with
  | []=>none
  | v::l=>match t.Rm v with
   | some x=>(match rq ts l with | some y=>some (x,y) | none=>none)
   | none=>none)
 | none::ts,l=>(match l with
  | []=>none
  | v::l=>match v.isU with
   | true=>rq ts l
   | false=>none)
def uR:(ts:List (Option VT))->CT ts->List Ct
 | [],_=>[]
 | some t::ts,(x,y)=>t.UN x::uR ts y
 | none::ts,y=> .u::uR ts y
theorem r9:∀ {ts:List (Option VT)} {l:List Ct} {h:CT ts},rq ts l=some h->l=uR ts h
 | [],l,h,e=>by
  cases l with
  | nil=>rfl
  | cons v l=>cases e
 | some t::ts,l,h,e=>by
  cases l with
  | nil=>cases e
  | cons v l =>
   have e:(match t.Rm v with
    | some x=>(match rq ts l with | some y=>some (x,y) | none=>none)
    | none=>none)=some h:=e
   cases hv:t.Rm v with
   | none=>rw [hv] at e; cases e
   | some x' =>
    cases hl:rq ts l with
    | none=>rw [hv,hl] at e; cases e
    | some y' =>
     rw [hv,hl] at e
     cases e
     show v::l=t.UN x'::uR ts y'
     rw [VT.RM hv,r9 hl]
 | none::ts,l,h,e=>by
  cases l with
  | nil=>cases e
  | cons v l =>
   cases v with
   | u =>
    have e:rq ts l=some h:=e
    show Ct.u::l= .u::uR ts h
    rw [r9 e]
   | _=>cases e
inductive xw | c (t:Option VT) | a (ts:List (Option VT)) | p (k:Nat) | f (g:Nat) (ks:List Nat) | al (k c:Nat) | io (τ:Ty)
def xw.T:xw->Type
 | .c t=>CT [t] | .a ts=>CT ts | .io τ=>List (El τ) | _=>Unit
def AC.abd:AC->List Ct | .c y=>[y] | _=>[]
def AC.Z5:AC->Option (List Ct) | .a y=>some y | _=>none
def AC.isP (k:Nat):AC->Bool | .p k'=>Nat.beq k k' | _=>false
def AC.isF (k:Nat) (ks:List Nat):AC->Bool | .f k' ks'=>Nat.beq k k'&&D9 ks ks' | _=>false
def AC.aac (k j:Nat):AC->Bool | .al k' j'=>Nat.beq k k'&&Nat.beq j j' | _=>false
def AC.WL (τ:Ty):AC->Option (List (El τ)) | .io σ xs=>yU τ σ xs | _=>none
def By:Bool->Option Unit | true=>some () | false=>none
def xw.dec:(s:xw)->AC->Option s.T
 | .c t,v=>rq [t] v.abd
 | .a ts,v=>(match v.Z5 with | some l=>rq ts l | none=>none)
 | .p k,v=>By (v.isP k)
 | .f g ks,v=>By (v.isF g ks)
 | .al k j,v=>By (v.aac k j)
 | .io τ,v=>v.WL τ
def hdC (l:List Ct):Ct:=match l with | [x]=>x | _=> .u
def xw.enc:(s:xw)->s.T->AC
 | .c t,x=> .c (hdC (uR [t] x)) | .a ts,x=> .a (uR ts x) | .p k,_=> .p k | .f g ks,_=> .f g ks | .al k j,_=> .al k j | .io τ,x=> .io τ x
theorem Cd {b:Bool} {x:Unit} (h:By b=some x):b=true:=by cases b<;>first | rfl | cases h
theorem xw.Jh {s:xw} {y:AC} {x:s.T} (h:s.dec y=some x):y=s.enc x:=by
 cases s with
 | c t =>
  cases y with
  | c z =>
   have e:=r9 (h:rq [t] [z]=some x)
   show AC.c z= .c (hdC (uR [t] x))
   rw [← e]; rfl
  | _=>cases t<;>cases h
 | a ts =>
  cases y with
  | a z =>
   show AC.a z= .a (uR ts x)
   rw [← r9 (h:rq ts z=some x)]
  | _=>cases h
 | p k =>
  cases y with
  | p k'=>have:=aF (Cd (h:By (Nat.beq k k')=some x)); subst this; rfl
  | _=>cases h
 | f g ks =>
  cases y with
  | f g' ks' =>
   have hk:(Nat.beq g g'&&D9 ks ks')=true:=Cd (h:By (Nat.beq g g'&&D9 ks ks')=some x)
   simp only [zB] at hk
   have h1:=aF hk.1
   have h2:=Ep hk.2
   subst h1; subst h2; rfl
  | _=>cases h
 | al k j =>
  cases y with
  | al k' j' =>
   have hk:(Nat.beq k k'&&Nat.beq j j')=true:=Cd (h:By (Nat.beq k k'&&Nat.beq j j')=some x)
   simp only [zB] at hk
   have h1:=aF hk.1
   have h2:=aF hk.2
   subst h1; subst h2; rfl
  | _=>cases h
 | io τ =>
  cases y with
  | io σ xs =>
   have h:yU τ σ xs=some x:=h
   show AC.io σ xs= .io τ x
   have e:=(BQ h).2
   injection e with h1 h2
   subst h1
   rw [eq_of_heq h2]
  | _=>cases h
def Pk:List xw->Type
 | []=>Unit
 | s::l=>s.T×Pk l
def B5:(ss:List xw)->List AC->Option (Pk ss)
 | [],[]=>some ()
 | s::ss,v::l=>match s.dec v with
  | some x=>match B5 ss l with | some y=>some (x,y) | none=>none
  | none=>none
 | _,_=>none
def Gw:(ss:List xw)->Pk ss->List AC
 | [],_=>[]
 | s::ss,(x,y)=>s.enc x::Gw ss y
theorem GF:∀ {ts:List xw} {l:List AC} {h:Pk ts},B5 ts l=some h->l=Gw ts h
 | [],[],_,_=>rfl
 | [],_::_,_,h=>by cases h
 | _::_,[],_,h=>by cases h
 | t::ts,v::l,(x,y),h=>by
  simp only [B5] at h
  cases hv:t.dec v with
  | none=>rw [hv] at h; cases h
  | some x' =>
   cases hl:B5 ts l with
   | none=>rw [hv,hl] at h; cases h
   | some y' =>
    rw [hv,hl] at h
    simp only [zA,zG] at h
    obtain ⟨rfl,rfl⟩:=h
    simp only [Gw]
    rw [xw.Jh hv,GF hl]
def Ns:List (List (Option VT))->Type
 | []=>Unit
 | s::l=>CT s×Ns l
def A5:(ss:List (List (Option VT)))->List (List Ct)->Option (Ns ss)
 | [],[]=>some ()
 | s::ss,v::l=>match rq s v with
  | some x=>match A5 ss l with | some y=>some (x,y) | none=>none
  | none=>none
 | _,_=>none
def FM:(ss:List (List (Option VT)))->Ns ss->List (List Ct)
 | [],_=>[]
 | s::ss,(x,y)=>uR s x::FM ss y
theorem Gb:∀ {ts:List (List (Option VT))} {l:List (List Ct)} {h:Ns ts},A5 ts l=some h->l=FM ts h
 | [],[],_,_=>rfl
 | [],_::_,_,h=>by cases h
 | _::_,[],_,h=>by cases h
 | t::ts,v::l,(x,y),h=>by
  simp only [A5] at h
  cases hv:rq t v with
  | none=>rw [hv] at h; cases h
  | some x' =>
   cases hl:A5 ts l with
   | none=>rw [hv,hl] at h; cases h
   | some y' =>
    rw [hv,hl] at h
    simp only [zA,zG] at h
    obtain ⟨rfl,rfl⟩:=h
    simp only [FM]
    rw [r9 hv,Gb hl]
variable {R:Type}
abbrev uD (as:List xw) (vs:List (List (Option VT))) (G:Pk as->Ns vs->(CR->Option R)->Option R):zi R:=fun cb cJ k=>match B5 as cb with
 | none=>none
 | some a=>match A5 vs cJ with
  | none=>none
  | some v=>G a v k
structure LF (R:Type) where
 id:Nat
 i:Nat
 ts:List VT
 F:Nat->HL ts->(Ex->St->Option R)->Option R
def xM (id i:Nat):List (LF R)->Option (LF R)
 | []=>none
 | x::l=>match Nat.beq x.id id,Nat.beq x.i i with | true,true=>some x | _,_=>xM id i l
abbrev LF.run (x:LF R) (m:Nat) (l:List m7) (K:Ex->St->Option R):Option R:=match IC x.ts l with | none=>none | some h=>x.F m h K
abbrev w9 (tab:List (LF R)) (m:Nat):Loop R:=fun id i l K=>match xM id i tab with | none=>none | some x=>x.run m l K
theorem vF {id i:Nat}:∀ {tab:List (LF R)} {x:LF R},xM id i tab=some x->x∈tab/\x.id=id/\x.i=i
 | [],_,h=>by cases h
 | y::l,x,h=>by
  simp only [xM] at h
  revert h; split
  ·rename_i h1 h2
   intro h; cases h
   exact ⟨zO,aF h1,aF h2⟩
  ·intro h
   obtain ⟨a,b⟩:=vF h
   exact ⟨zJ _ a,b⟩
variable {X:Ctx} {E:Env R} {L:Live} {body:Code}
structure QX (X:Ctx) (E:Env R) (L:Live) (body:Code) (tab:List (LF R)) (x:LF R):Prop where
 z:∀ h K,x.F 0 h K=none
 s:∃ c,getLoop x.id body=some c/\∀ m h K,round X E L (w9 tab m) c x.i (Oa x.ts h) K=x.F (m+1) h K
theorem Od {tab:List (LF R)} (HN:fB (tV body)=true) (h:∀ x∈tab,QX X E L body tab x):Gf X E L body (w9 tab):=by
 refine ⟨fun id i l=> ?_,fun n id i l=> ?_,HN⟩
 ·funext K
  simp only [w9]
  cases hf:xM id i tab with
  | none=>rfl
  | some x =>
   simp only [LF.run]
   cases hd:IC x.ts l with
   | none=>rfl
   | some a=>exact (h x (vF hf).1).z a K
 ·cases hf:xM id i tab with
  | none=>refine .inl ?_; funext K; simp only [w9,hf]
  | some x =>
   obtain ⟨hx,rfl,rfl⟩:=vF hf
   cases hd:IC x.ts l with
   | none=>refine .inl ?_; funext K; simp only [w9,hf,LF.run,hd]
   | some a =>
    obtain ⟨c,hc,hs⟩:=(h x hx).s
    refine .inr ⟨c,hc,?_⟩
    funext K
    simp only [w9,hf,LF.run,hd]
    rw [← hs n a K,← Ku hd]
abbrev D0 (l:List (Nat×(tE×zi R))):Env R:=⟨fun f=>match lk l f with | some p=>some p.1 | none=>none,fun f=>match lk l f with | some p=>p.2 | none=>fun _ _ _=>none⟩
theorem OB {l:List (Nat×(tE×zi R))} (h:∀ p∈l,Ar X p.2.1 p.1 p.2.2/\u0 X.P p.1):te X (D0 l):=by
 refine ⟨fun f g hg=> ?_,fun f cb cJ=> ?_⟩
 ·have hg:(match lk l f with | some p=>some p.1 | none=>none)=some g:=hg
  cases hl:lk l f with
  | none=>rw [hl] at hg; cases hg
  | some p =>
   rw [hl] at hg; cases hg
   obtain ⟨h1,h2⟩:=h (f,p) (cM hl)
   refine ⟨?_,h2⟩
   have:(D0 l).fn f=p.2:=by show (match lk l f with | some p=>p.2 | none=>fun _ _ _=>none)=_; rw [hl]
   rw [this]; exact h1
 ·show gq ((match lk l f with | some p=>p.2 | none=>fun _ _ _=>none) cb cJ)
  cases hl:lk l f with
  | none=>exact gq.none
  | some p=>exact (h (f,p) (cM hl)).1.FC cb cJ
theorem Ux (r0:R) (hX:iy X) {env:List (Nat×(tE×zi R))} (hE:∀ p∈env,Ar X p.2.1 p.1 p.2.2/\u0 X.P p.1) {L:Live} {g:tE} {f:FuncId} {fn:Func} {body:Code} {tab:List (LF R)}
  {as:List xw} {vs:List (List (Option VT))} {G:Pk as->Ns vs->(CR->Option R)->Option R} (n:Nat)
  (hf:X.P.funcs[f]? =some fn) (hb:fn.body=some body) (HN:fB (tV body)=true) (hl:∀ x∈tab,QX (X.at fn) (D0 env) L body tab x)
  (hF:∀ a v k,DK X (D0 env) L (w9 tab n) g fn (Gw as a) (FM vs v) k=G a v k):Ar X g f (uD as vs G):=by
 refine WE r0 hX (OB hE) hf hb (Od HN hl) fun cb cJ=> ?_
 cases h1:B5 as cb with
 | none=>refine .inl ?_; funext k; simp only [uD,h1]
 | some a =>
  cases h2:A5 vs cJ with
  | none=>refine .inl ?_; funext k; simp only [uD,h1,h2]
  | some v =>
   refine .inr ⟨n,?_⟩
   funext k
   simp only [uD,h1,h2]
   rw [← hF a v k,← GF h1,← Gb h2]
theorem enters {P:Program} {f:FuncId} {fn:Func} (h:P.funcs[f]? =some fn) (h1:(fn.name == "runtime.NumGoroutine")=false) (h2:fn.body.isNone=false):u0 P f:=⟨fn,h,h1,h2⟩
end Go.Soft
namespace Go.Soft
open Go
def ctB:Ct->Value->Bool
 | .b x,.bool y=>(match x,y with | true,true | false,false=>true | _,_=>false)
 | .i k n,.int k' n'=>FE k k'&&decide (n=n')
 | .s x,.string y=>decide (x=y)
 | .l _ [],.slice none 0 0=>true
 | _,_=>false
def R2:List Ct->List Value->Bool
 | [],[]=>true
 | c::l,v::m=>ctB c v&&R2 l m
 | _,_=>false
theorem U5 {c:Ct} {v:Value} (h:ctB c v=true):v=gx c:=by
 revert h
 unfold ctB
 split
 ·intro h; rename_i x y; cases x<;>cases y<;>first | rfl | cases h
 ·intro h
  simp only [zB,zD] at h
  rw [qT h.1,h.2]; rfl
 ·intro h
  simp only [zD] at h
  rw [h]; rfl
 ·intro _; rfl
 ·intro h; cases h
theorem Kg:∀ {l:List Ct} {m:List Value},R2 l m=true->m=l.map gx
 | [],[],_=>rfl
 | [],_::_,h=>by cases h
 | _::_,[],h=>by cases h
 | c::l,v::m,h=>by
  simp only [R2,zB] at h
  rw [List.map_cons,U5 h.1,Kg h.2]
def YW (P:Program) (id:Ty->TypeId) (e:Nat) (τ:Ty):Bool:=match P.info? e with
 | none=>false
 | some i=>Nat.beq i.size (sz τ)&&(match Nat.beq (id τ) e with
  | false=>true
  | true=>match i.zero with | some z=>R2 (cells τ (cg τ)) z.cells.toList&&Nat.ble i.bytes 128 | none=>false)
def NM (P:Program) (e:Nat) (τ:Ty):Bool:=match τ with
 | .byte=>(match P.underlying e with | some (.int .u8)=>true | _=>false)
 | _=>true
def RS (X:Ctx):List (Nat×Ty)->Bool
 | []=>true
 | (e,τ)::l=>(YW X.P X.id e τ&&NM X.P e τ)&&RS X l
theorem v5 {X:Ctx}:∀ {l:List (Nat×Ty)},RS X l=true->∀ e τ,(e,τ)∈l->YW X.P X.id e τ=true/\NM X.P e τ=true
 | [],_,e,τ,h=>by cases h
 | (e',τ')::l,h,e,τ,hm=>by
  simp only [RS,zB] at h
  rcases zI.1 hm with hm | hm
  ·cases hm; exact h.1
  ·exact v5 h.2 e τ hm
theorem Oj {X:Ctx} (h:RS X X.ty=true) (heq:∀ t ks,lk X.eqs t=some ks->StructEq X.P t ks) (hm:X.P.follows .mixedOrders=true):iy X:=by
 refine ⟨fun e τ hl=> ?_,fun e τ hl oQ=> ?_,fun e hl=> ?_,heq,hm⟩
 ·have:=(v5 h e τ (cM hl)).1
  simp only [YW] at this
  cases hi:X.P.info? e with
  | none=>rw [hi] at this; cases this
  | some i =>
   rw [hi] at this
   simp only [zB] at this
   exact ⟨i,rfl,aF this.1⟩
 ·have:=(v5 h e τ (cM hl)).1
  simp only [YW] at this
  cases hi:X.P.info? e with
  | none=>rw [hi] at this; cases this
  | some i =>
   rw [hi,oQ] at this
   simp only [zB,Nat.beq_refl] at this
   cases hz:i.zero with
   | none=>rw [hz] at this; exact absurd this.2 (by simp)
   | some z =>
    rw [hz] at this
    have h2:=this.2
    simp only [zB] at h2
    exact ⟨i,z,rfl,hz,Kg h2.1,zQ h2.2⟩
 ·have:=(v5 h e .byte (cM hl)).2
  simp only [NM] at this
  revert this; split
  ·rename_i hu; intro _; exact hu
  ·intro h; cases h
theorem adr {X:Ctx} (h:X.eqs=[]):∀ t ks,lk X.eqs t=some ks->StructEq X.P t ks:=by
 intro t ks ht; rw [h] at ht; cases ht
def aC (n:Int):Int:=IntKind.i64.wrap n
def mi (a b:ByteArray):Bool:=decide (a.size+b.size<=4611686018427387904)
def Xx (a b:Int):Bool:=(a==b)&&(decide (0<=a)&&Nat.ble a.toNat Na)
def bg {α:Type} (l:List α):Bool:=Nat.ble l.length Na
def xf (l:Int) (n:Nat):Bool:=decide (0<=l)&&decide (l<=(n:Int))
def jX (l h:Int) (n:Nat):Bool:=decide (0<=l)&&(decide (l<=h)&&decide (h<=(n:Int)))
def S (l:List UInt8):ByteArray:=⟨⟨l⟩⟩
def eS:ByteArray:= .empty
def yW (l:List UInt8):ByteArray:=⟨⟨l⟩⟩
def aq:Slot:=cg .slot
def ay:aR:=cg .inode
def aA:Block:=cg .block
def aT:bO:=cg .dep
def eA:Node:=cg .node
end Go.Soft
namespace Go.Soft
open Go
theorem Is {R:Type} (r0:R) {X:Ctx} {g:tE} {f:FuncId} {as:List xw} {vs:List (List (Option VT))} {G:Pk as->Ns vs->(CR->Option R)->Option R} (h:∀ a v k,G a v k=none):Ar X g f (uD as vs G):=by
 have hn:∀ cb cJ,uD as vs G cb cJ=fun _=>none:=by
  intro cb cJ
  funext k
  simp only [uD]
  cases B5 as cb with
  | none=>rfl
  | some a =>
   cases A5 vs cJ with
   | none=>rfl
   | some v=>exact h a v k
 exact ⟨fun cb cJ=>by rw [hn]; exact gq.none,fun cb cJ cr hK=>by rw [hn] at hK; exact (bN r0 hK).elim⟩
end Go.Soft
namespace Go.Soft
open Go
variable {P:Program} {M:Lk} {γ:Gh} {w:World}
def YS (P:Program):Nat->List Ct->List Field->Bool
 | _,[],[]=>true
 | i,c::l,f::fs=>(Nat.beq f.offset i&& !(f.name == "_"))&&((match P.info? f.type with | some _=>true | none=>false)&&(match P.underlying f.type,c with
   | some .bool,.b _=>true | some .string,.s _=>true | some (.int _),.i _ _=>true | _,_=>false))&&YS P (i+1) l fs
 | _,_,_=>false
theorem KI {us:List Value} {i:Nat} {u:Value} {t:TypeId} (hu:us[i]? =some u) (ht:P.underlying t=some .bool\/P.underlying t=some .string\/∃ k,P.underlying t=some (.int k)) :
  (part t us.toArray i).run P w= .ok u w:=by
 have Nl:(isAgg t).run P w= .ok false w:=by
  rcases ht with h | h | ⟨k,h⟩<;>simp [isAgg,run_underlying h]
 simp only [part,Sem.run_bind,Nl,Result.andThen_ok,Bool.false_eq_true,if_false]
 simp [hu]
theorem uO {x:Cv} {l:List Cv} {us:List Value} {i:Nat} (h:b9 M γ (x::l) (us.drop i)):∃ u,us[i]? =some u/\bp M γ x u/\b9 M γ l (us.drop (i+1)):=by
 generalize hd:us.drop i=r at h
 cases h with
 | cons hx hl =>
  rename_i u us'
  have h0:us[i]? =some u:=by
   have:=congrArg (fun l=>l[0]?) hd
   simpa [List.getElem?_drop] using this
  have h1:us.drop (i+1)=us':=by
   have:=congrArg List.tail hd
   simpa [List.tail_drop] using this
  exact ⟨u,h0,hx,h1▸hl⟩
theorem S5 {us vs:List Value} {d:Nat}:∀ {fs:List Field} {ks:List Ct} {i:Nat} {l m:List Cv},YS P i ks fs=true->mY ks l=true->mY ks m=true->b9 M γ l (us.drop i)->b9 M γ m (vs.drop i)->∀ c,yZ l m=some c ->
  (Op.eqFields (d+1) us.toArray vs.toArray fs).run P w= .ok c w
 | [],[],i,l,m,_,h1,h2,_,_,c,hc=>by
  cases l with
  | cons=>cases h1
  | nil =>
   cases m with
   | cons=>cases h2
   | nil=>cases hc; rfl
 | [],_::_,_,_,_,hs,_,_,_,_,_,_=>by cases hs
 | _::_,[],_,_,_,hs,_,_,_,_,_,_=>by cases hs
 | f::fs,k::ks,i,l,m,hs,h1,h2,hu,hv,c,hc=>by
  cases l with
  | nil=>cases h1
  | cons x l =>
   cases m with
   | nil=>cases h2
   | cons y m =>
    simp only [YS,zB] at hs
    obtain ⟨⟨⟨ho,hn⟩,_,hk⟩,hs⟩:=hs
    have ho:=aF ho
    have hn:f.name ≠ "_" := by simpa using hn
    simp only [mY,zB] at h1 h2
    obtain ⟨u,u1,u2,u3⟩:=uO hu
    obtain ⟨v,v1,v2,v3⟩:=uO hv
    simp only [yZ] at hc
    cases MQ:N1 x y with
    | none=>rw [MQ] at hc; cases hc
    | some a =>
     cases Ue:yZ l m with
     | none=>rw [MQ,Ue] at hc; cases hc
     | some b =>
      rw [MQ,Ue] at hc
      have C1:c=(a&&b):=by
       cases l with
       | nil =>
        cases m with
        | nil=>cases Ue; simp at hc; rw [← hc]; simp
        | cons=>cases Ue
       | cons=>simp at hc; exact hc.symm
      have ih:=S5 (us:=us) (vs:=vs) (d:=d) hs h1.2 h2.2 u3 v3 b Ue
      have fld:(P.underlying f.type=some .bool\/P.underlying f.type=some .string\/∃ k,P.underlying f.type=some (.int k))/\(Op.equalIn (d+1) f.type u v).run P w= .ok a w:=by
       revert hk; split
       ·rename_i ht
        intro _
        refine ⟨.inl ht,?_⟩
        cases x<;>cases y<;>simp [KB] at h1 h2
        simp only [N1,zA] at MQ
        rw [show u=_ from u2,show v=_ from v2,run_equalIn_bool' _ _ _ _ _ ht,MQ]
       ·rename_i ht
        intro _
        refine ⟨.inr (.inl ht),?_⟩
        cases x<;>cases y<;>simp [KB] at h1 h2
        simp only [N1,zA] at MQ
        rw [show u=_ from u2,show v=_ from v2,run_equalIn_string _ _ _ _ _ ht,← beq_toListBytes,MQ]
       ·rename_i k' n ki ht
        intro _
        refine ⟨.inr (.inr ⟨_,ht⟩),?_⟩
        cases x<;>cases y<;>simp only [KB,Bool.false_eq_true,false_and] at h1 h2
        rename_i ka na kb nb
        have e1:=qT h1.1
        have e2:=qT h2.1
        simp only [N1,zA] at MQ
        rw [show u=_ from u2,show v=_ from v2,← e1,← e2,run_equalIn_int _ _ _ _ _ _ _ ht,MQ]
       ·intro h; cases h
      simp only [Op.eqFields,if_pos hn,Sem.run_bind,ho]
      rw [KI u1 fld.1]
      simp only [Result.andThen_ok]
      rw [KI v1 fld.1]
      simp only [Result.andThen_ok,fld.2,C1]
      cases a with
      | false=>simp
      | true=>simpa using ih
theorem Hp {t:TypeId} {ks:List Ct} {fs:Array Field} (ht:P.underlying t=some (.struct fs)) (hp:P.stoodInHeld t=false) (hg:P.eqGuardType P.depth t=false) (hs:YS P 0 ks fs.toList=true):StructEq P t ks:=by
 intro l m us vs c γ M w h1 h2 hu hv hc
 have hf:P.fieldsOf t=fs:=by simp only [Program.fieldsOf,ht]
 have JA:P.underlying t=some (.struct (P.fieldsOf t)):=by rw [hf]; exact ht
 simp only [Sem.run_bind,run_eqGuard_agg w .eql t (.tmp 0) (.tmp 0) us.toArray vs.toArray hg,Result.andThen_ok]
 show (Op.equalIn (9999+1) t (.agg us.toArray) (.agg vs.toArray)).run P w=_
 rw [run_equalIn_struct w 9999 t _ _ JA hp,hf]
 exact S5 (d:=9998) hs h1 h2 (by simpa using hu) (by simpa using hv) c hc
end Go.Soft
namespace Go.Soft
open Go
variable {R:Type}
def Cu:List VT->Type->Type
 | [],Y=>Y
 | t::ts,Y=>t.T->Cu ts Y
abbrev apH {Y:Type}:(ts:List VT)->Cu ts Y->HL ts->Y
 | [],f,_=>f
 | _::ts,f,h=>apH ts (f h.1) h.2
def CuA:List xw->Type->Type
 | [],Y=>Y
 | s::l,Y=>s.T->CuA l Y
abbrev apA {Y:Type}:(ss:List xw)->CuA ss Y->Pk ss->Y
 | [],f,_=>f
 | _::l,f,h=>apA l (f h.1) h.2
def CuV:List (List (Option VT))->Type->Type
 | [],Y=>Y
 | s::l,Y=>CT s->CuV l Y
abbrev apV {Y:Type}:(ss:List (List (Option VT)))->CuV ss Y->Ns ss->Y
 | [],f,_=>f
 | _::l,f,h=>apV l (f h.1) h.2
def Wb:(ts:List VT)->(HL ts->Prop)->Prop
 | [],p=>p ()
 | _::ts,p=>∀ x,Wb ts fun y=>p (x,y)
theorem Wb.all:∀ {ts:List VT} {p:HL ts->Prop},Wb ts p->∀ h,p h
 | [],_,h,_=>h
 | _::ts,p,h,(x,y)=>Wb.all (ts:=ts) (p:=fun y=>p (x,y)) (h x) y
def M7:(ts:List (Option VT))->(CT ts->Prop)->Prop
 | [],p=>p ()
 | some t::ts,p=>∀ x:t.T,M7 ts fun y=>p (x,y)
 | none::ts,p=>M7 ts p
theorem M7.all:∀ {ts:List (Option VT)} {p:CT ts->Prop},M7 ts p->∀ h,p h
 | [],_,h,_=>h
 | some _::ts,p,h,(x,y)=>M7.all (ts:=ts) (p:=fun y=>p (x,y)) (h x) y
 | none::ts,p,h,y=>M7.all (ts:=ts) (p:=p) h y
def YZ:(s:xw)->(s.T->Prop)->Prop
 | .c t,p=>M7 [t] p
 | .a ts,p=>M7 ts p
 | .io _,p=>∀ x,p x
 | .p _,p=>p ()
 | .f _ _,p=>p ()
 | .al _ _,p=>p ()
theorem YZ.all {s:xw} {p:s.T->Prop} (h:YZ s p):∀ x,p x:=by
 cases s with
 | c t=>exact M7.all (ts:=[t]) h
 | a ts=>exact M7.all (ts:=ts) h
 | io τ=>exact h
 | p k=>exact fun _=>h
 | f g l=>exact fun _=>h
 | al k j=>exact fun _=>h
def WM:(ss:List xw)->(Pk ss->Prop)->Prop
 | [],p=>p ()
 | s::l,p=>YZ s fun x=>WM l fun y=>p (x,y)
theorem WM.all:∀ {ss:List xw} {p:Pk ss->Prop},WM ss p->∀ h,p h
 | [],_,h,_=>h
 | s::l,p,h,(x,y)=>WM.all (ss:=l) (p:=fun y=>p (x,y)) (YZ.all (s:=s) h x) y
def Xp:(ss:List (List (Option VT)))->(Ns ss->Prop)->Prop
 | [],p=>p ()
 | s::l,p=>M7 s fun x=>Xp l fun y=>p (x,y)
theorem Xp.all:∀ {ss:List (List (Option VT))} {p:Ns ss->Prop},Xp ss p->∀ h,p h
 | [],_,h,_=>h
 | s::l,p,h,(x,y)=>Xp.all (ss:=l) (p:=fun y=>p (x,y)) (M7.all (ts:=s) h x) y
abbrev lf (id i:Nat) (ts:List VT) (F:Nat->(Ex->St->Option R)->Cu ts (Option R)):LF R:=⟨id,i,ts,fun m h K=>apH ts (F m K) h⟩
structure FD (R:Type) where
 f:FuncId
 g:tE
 as:List xw
 vs:List (List (Option VT))
 G:Pk as->Ns vs->(CR->Option R)->Option R
abbrev fd (f:FuncId) (g:tE) (as:List xw) (vs:List (List (Option VT))) (F:(CR->Option R)->CuA as (CuV vs (Option R))):FD R:=⟨f,g,as,vs,fun a v k=>apV vs (apA as (F k) a) v⟩
abbrev FD.e (d:FD R):Nat×(tE×zi R):=(d.f,(d.g,uD d.as d.vs d.G))
structure FD.Ok (X:Ctx) (d:FD R):Prop where
 ok:Ar X d.g d.f (uD d.as d.vs d.G)
 en:u0 X.P d.f
inductive Es (X:Ctx):List (Nat×(tE×zi R))->Prop
 | n:Es X []
 | c {d:FD R} {l} (h:d.Ok X) (t:Es X l):Es X (d.e::l)
theorem Es.all {X:Ctx} {l:List (Nat×(tE×zi R))} (h:Es X l):∀ p∈l,Ar X p.2.1 p.1 p.2.2/\u0 X.P p.1:=by
 induction h with
 | n=>intro p hp; cases hp
 | c h t ih =>
  intro p hp
  rcases zI.1 hp with rfl | hp
  ·exact ⟨h.ok,h.en⟩
  ·exact ih p hp
def Fc (fn:Func):Code:=fn.body.getD .skip
def YY (fn:Func):Bool:= !(fn.name == "runtime.NumGoroutine")&&(!fn.body.isNone&&fB (tV (Fc fn)))
inductive Ts (X:Ctx) (E:Env R) (L:Live) (body:Code) (T:List (LF R)):List (LF R)->Prop
 | n:Ts X E L body T []
 | c' {x:LF R} {l} (h:QX X E L body T x) (t:Ts X E L body T l):Ts X E L body T (x::l)
theorem Ts.c {X:Ctx} {E:Env R} {L:Live} {body:Code} {T:List (LF R)} {x:LF R} {l:List (LF R)} (t:Ts X E L body T l) (hz:Wb x.ts fun h=>∀ K,x.F 0 h K=none:=by (repeat intro _); kernel_rfl)
  (hs:(getLoop x.id body).isSome=true:=by kernel_rfl) (hr:∀ m,Wb x.ts fun h=>∀ K,round X E L (w9 T m) ((getLoop x.id body).getD .skip) x.i (Oa x.ts h) K=x.F (m+1) h K:=by (repeat intro _); kernel_rfl):Ts X E L body T (x::l):=by
 refine .c' ⟨hz.all,?_⟩ t
 cases hc:getLoop x.id body with
 | none=>rw [hc] at hs; cases hs
 | some c=>rw [hc] at hr; exact ⟨c,rfl,fun m h K=>(hr m).all h K⟩
theorem Ts.all {X:Ctx} {E:Env R} {L:Live} {body:Code} {T l:List (LF R)} (h:Ts X E L body T l):∀ x∈l,QX X E L body T x:=by
 induction h with
 | n=>intro p hp; cases hp
 | c' h t ih =>
  intro p hp
  rcases zI.1 hp with rfl | hp
  ·exact h
  ·exact ih p hp
theorem FD.Ok.of (r0:R) {X:Ctx} (hX:iy X) {d:FD R} {env:List (Nat×(tE×zi R))} (L:Live) (tab:List (LF R)) (n:Nat) {fn:Func} (hf:X.P.funcs[d.f]? =some fn) (hE:Es X env)
  (hl:Ts (X.at fn) (D0 env) L (Fc fn) tab tab) (hc:YY fn=true:=by kernel_rfl)
  (hF:WM d.as fun a=>Xp d.vs fun v=>∀ k,DK X (D0 env) L (w9 tab n) d.g fn (Gw d.as a) (FM d.vs v) k=d.G a v k:=by (repeat intro _); kernel_rfl):d.Ok X:=by
 simp only [YY,zB,Bool.not_eq_true'] at hc
 obtain ⟨h1,h2,h3⟩:=hc
 refine ⟨Ux r0 hX hE.all (L:=L) (tab:=tab) (body:=Fc fn) n hf ?_ h3 hl.all (fun a v k=>(hF.all a).all v k),enters hf h1 h2⟩
 cases hb:fn.body with
 | none=>rw [hb] at h2; cases h2
 | some b=>simp [Fc,hb]
theorem FD.Ok.zero (r0:R) {X:Ctx} {d:FD R} (hz:∀ a v k,d.G a v k=none:=by intros; kernel_rfl) {fn:Func} (hf:X.P.funcs[d.f]? =some fn) (hc:YY fn=true:=by kernel_rfl):d.Ok X:=by
 simp only [YY,zB,Bool.not_eq_true'] at hc
 exact ⟨Is r0 hz,enters hf hc.1 hc.2.1⟩
theorem UC {P:Program} {l:List (Nat×List Ct)} (h:∀ p∈l,StructEq P p.1 p.2):∀ t ks,lk l t=some ks->StructEq P t ks:=fun t ks ht=>h (t,ks) (cM ht)
end Go.Soft
namespace Go.Soft
open Go
structure au where
 ab:List Bool
 bB:List Bool
structure aa where
 au:au
 ad:List aR
 ab:List Block
structure Mem where
 aa:aa
 an:List Bool
 ae:List bO
 Next:Int
structure Device where
 cp:List ByteArray
structure Fs where
 Mem:Mem
 Device:Device
structure et where
 b:List UInt8
 i:Int
 h:Int
structure World where
 Fs:Fs
 Model:List Node
 jk:List Int
 Kept:List Node
def oI:Option VT:=some (.i .i64)
def oB:Option VT:=some .b
def oS:Option VT:=some .s
def oL (τ:Ty):Option VT:=some (.l τ)
def cI (n:Int):Ct:= .i .i64 n
def aI:xw:= .c oI
def aB:xw:= .c oB
def aS:xw:= .c oS
def aL (τ:Ty):xw:= .c (oL τ)
abbrev OD:List (Option VT):=[oS,oI]
def UZ (a:CT OD):Slot:=⟨a.1,a.2.1⟩
abbrev oV:List (Option VT):=[oI,oI,oL .int]
def qI (a:CT oV):aR:=⟨a.1,a.2.1,a.2.2.1⟩
def qt (r:aR):List Ct:=[cI r.Kind,cI r.Links,.l .int r.ax]
abbrev mr:List (Option VT):=[oB,oL .slot,oS]
def nG (a:CT mr):Block:=⟨a.1,a.2.1,a.2.2.1⟩
def pt (r:Block):List Ct:=[.b r.bZ,.l .slot r.ah,.s r.Text]
abbrev DN:List (Option VT):=[oI,oI,oI,oI,oI,oI,oS,oB,oB,oI,oL .int]
def GU (a:CT DN):bO:=⟨a.1,a.2.1,a.2.2.1,a.2.2.2.1,a.2.2.2.2.1,a.2.2.2.2.2.1,a.2.2.2.2.2.2.1,a.2.2.2.2.2.2.2.1,a.2.2.2.2.2.2.2.2.1,a.2.2.2.2.2.2.2.2.2.1,a.2.2.2.2.2.2.2.2.2.2.1⟩
abbrev z0:List (Option VT):=[oI,oS,oS,oI,oS]
def Ef (a:CT z0):Event:=⟨a.1,a.2.1,a.2.2.1,a.2.2.2.1,a.2.2.2.2.1⟩
def RX (r:Event):List Ct:=[cI r.Kind,.s r.Path,.s r.To,cI r.At,.s r.Text]
abbrev yb:List (Option VT):=[oL .bool,oL .bool]
def Ax (a:CT yb):au:=⟨a.1,a.2.1⟩
def B1 (r:au):List Ct:=[.l .bool r.ab,.l .bool r.bB]
abbrev gD:List (Option VT):=[oL .bool,oL .bool,oL .inode,oL .block]
def gW (a:CT gD):aa:=⟨⟨a.1,a.2.1⟩,a.2.2.1,a.2.2.2.1⟩
def qY (r:aa):List Ct:=[.l .bool r.au.ab,.l .bool r.au.bB,.l .inode r.ad,.l .block r.ab]
abbrev so:List (Option VT):=[oL .str]
def wW (a:CT so):Device:=⟨a.1⟩
def G7 (r:Device):List Ct:=[.l .str r.cp]
abbrev eY:List (Option VT):=[oL .bool,oL .bool,oL .inode,oL .block,oL .bool,oL .dep,oI]
def ff (a:CT eY):Mem:=⟨⟨⟨a.1,a.2.1⟩,a.2.2.1,a.2.2.2.1⟩,a.2.2.2.2.1,a.2.2.2.2.2.1,a.2.2.2.2.2.2.1⟩
def g5 (r:Mem):List Ct:=[.l .bool r.aa.au.ab,.l .bool r.aa.au.bB,.l .inode r.aa.ad,.l .block r.aa.ab,.l .bool r.an,.l .dep r.ae,cI r.Next]
abbrev OK:List (Option VT):=[oL .bool,oL .bool,oL .inode,oL .block,oL .bool,oL .dep,oI,oL .str]
def Rt (a:CT OK):Fs:=⟨⟨⟨⟨a.1,a.2.1⟩,a.2.2.1,a.2.2.2.1⟩,a.2.2.2.2.1,a.2.2.2.2.2.1,a.2.2.2.2.2.2.1⟩,⟨a.2.2.2.2.2.2.2.1⟩⟩
def Ma (r:Fs):List Ct:=[.l .bool r.Mem.aa.au.ab,.l .bool r.Mem.aa.au.bB,.l .inode r.Mem.aa.ad,.l .block r.Mem.aa.ab,.l .bool r.Mem.an,.l .dep r.Mem.ae,cI r.Mem.Next,.l .str r.Device.cp]
abbrev kM:List (Option VT):=[oL .byte,oI,oI]
def k8 (a:CT kM):et:=⟨a.1,a.2.1,a.2.2.1⟩
def kY (r:et):List Ct:=[.l .byte r.b,cI r.i,cI r.h]
abbrev En:List (Option VT):=[oL .bool,oL .bool,oL .inode,oL .block,oL .bool,oL .dep,oI,oL .str,oL .node,oL .int,oL .node]
def J0 (a:CT En):World:=⟨⟨⟨⟨⟨a.1,a.2.1⟩,a.2.2.1,a.2.2.2.1⟩,a.2.2.2.2.1,a.2.2.2.2.2.1,a.2.2.2.2.2.2.1⟩,⟨a.2.2.2.2.2.2.2.1⟩⟩,a.2.2.2.2.2.2.2.2.1,a.2.2.2.2.2.2.2.2.2.1,a.2.2.2.2.2.2.2.2.2.2.1⟩
def Q9 (r:World):List Ct:=[.l .bool r.Fs.Mem.aa.au.ab,.l .bool r.Fs.Mem.aa.au.bB,.l .inode r.Fs.Mem.aa.ad,.l .block r.Fs.Mem.aa.ab,.l .bool r.Fs.Mem.an,.l .dep r.Fs.Mem.ae,cI r.Fs.Mem.Next,.l .str r.Fs.Device.cp,.l .node r.Model,.l .int r.jk,.l .node r.Kept]
def rC:List Ct->List Rc
 | []=>[]
 | x::l=> .c x::rC l
def rI (n:Int):Rc:= .c (cI n)
def rB (b:Bool):Rc:= .c (.b b)
def j5 (n:Int):Bool:=decide (0<=n)&&decide (n<256)
def BF (k:IntKind) (a b:Int):Int:=k.wrap ((BitVec.ofInt k.bits a &&& BitVec.ofInt k.bits b).toNat)
def UG (k:IntKind) (a b:Int):Int:=k.wrap ((BitVec.ofInt k.bits a ^^^ BitVec.ofInt k.bits b).toNat)
def LL (k:IntKind) (a b:Int):Int:=a.fdiv (2 ^ (min b.toNat k.bits))
def cW (r:Nat):Cv:= .sw (500000+r)
def cN (n:Int):Cv:= .i .i64 n
def rR (r:Nat) (τ:Ty) (xs:List (El τ)) (ow:Nat):Nat×Row:=(500000+r,⟨τ,xs,ow⟩)
def hW (r:Nat):Sh:= .sw (500000+r)
def hI:Sh:= .i .i64
def hR (r:Nat) (τ:Ty) (ow:Nat):Nat×(Ty×Nat):=(500000+r,(τ,ow))
end Go.Soft
set_option maxRecDepth 100000
namespace Go.Soft
open Go
variable {R:Type}
def Ke (code:List UInt8) (k0:Bool->Option R):Option R :=
 k0 (decide (1048576<(code.length:Int)))
def ju (code:List UInt8) (q0:Int->Option R):Nat->Int->Int->Option R
 | 0,_,_=>none
 | m+1,xh,i =>
  bif (decide (i<(code.length:Int)))&&(decide (i<4000)) then
  aJ (aZ i code.length) <|
  ju code q0 m (BF .i64 (aC ((aC ((aC (xh*131))+(aC (((code.getD i.toNat 0).toNat:Int)))))+7)) 1073741823) (aC (i+1))
  else
  q0 xh
def sX (n:Nat) (code:List UInt8) (k0:et->Option R):Option R :=
 ju code (fun xh =>
  k0 ⟨code,0,xh⟩) n (aC (37701+(code.length:Int))) 0
def iP (c:et) (k0:Int->et->Option R):Option R :=
 bif (decide (c.i<(c.b.length:Int))) then
  aJ (aZ c.i c.b.length) <|
  k0 (BF .i64 (aC ((BF .i64 (UG .i64 (LL .i64 (aC ((aC (c.h*6364136223846793005))+1442695040888963407)) 33) (LL .i64 (aC ((aC (c.h*6364136223846793005))+1442695040888963407)) 45)) 255)+(aC (((c.b.getD c.i.toNat 0).toNat:Int))))) 255) ⟨c.b,(aC (c.i+1)),(aC ((aC (c.h*6364136223846793005))+1442695040888963407))⟩
 else
 k0 (BF .i64 (UG .i64 (LL .i64 (aC ((aC (c.h*6364136223846793005))+1442695040888963407)) 33) (LL .i64 (aC ((aC (c.h*6364136223846793005))+1442695040888963407)) 45)) 255) ⟨c.b,c.i,(aC ((aC (c.h*6364136223846793005))+1442695040888963407))⟩
def aM (xn:Int) (c:et) (k0:Int->et->Option R):Option R :=
 bif (decide (xn<=0)) then
  k0 0 c
 else
 bif (decide (xn<=256)) then
  iP c fun r lo =>
  aJ (!(xn==0)) <|
  k0 (r.tmod xn) ⟨c.b,lo.i,lo.h⟩
 else
 iP c fun cZ bX =>
 iP ⟨c.b,bX.i,bX.h⟩ fun dQ bQ =>
 iP ⟨c.b,bQ.i,bQ.h⟩ fun lu mj =>
 iP ⟨c.b,mj.i,mj.h⟩ fun nj qd =>
 aJ (!(xn==0)) <|
 k0 ((aC ((aC ((aC ((aC (cZ*16777216))+(aC (dQ*65536))))+(aC (lu*256))))+nj)).tmod xn) ⟨c.b,qd.i,qd.h⟩
def cR (xn:Int) (c:et) (k0:Bool->et->Option R):Option R :=
 aM xn c fun r lo =>
 k0 (r==0) ⟨c.b,lo.i,lo.h⟩
def lS (k0:au->Option R):Option R :=
 aJ (aZ 0 ((List.replicate 8 false).length)) <|
 let row:=((List.replicate 8 false).set 0 true)
 k0 ⟨(List.replicate 16 false),row⟩
def dW (kind:Int) (k0:aR->Option R):Option R :=
 bif (kind==0) then
  k0 ⟨kind,0,(List.replicate 2 0)⟩
 else
 k0 ⟨kind,1,(List.replicate 2 0)⟩
def jU (q0:(List aR)->Option R):Nat->Int->(List aR)->Option R
 | 0,_,_=>none
 | m+1,i,ix =>
  bif (decide (i<8)) then
  dW 0 fun mX =>
  let row:=(ix++([mX]))
  aJ (bg row) <|
  jU q0 m (aC (i+1)) row
  else
  q0 ix
def nQ (n:Nat) (k0:aa->Option R):Option R :=
 lS fun b =>
 jU (fun v =>
  dW 2 fun i =>
  aJ (aZ 0 v.length) <|
  let row:=(v.set 0 i)
  k0 ⟨b,row,(List.replicate 16 aA)⟩) n 0 ([])
def dC (list:List Int) (c:et) (k0:Int->et->Option R):Option R :=
 aM (list.length:Int) c fun r lo =>
 aJ (aZ r list.length) <|
 k0 (list.getD r.toNat 0) ⟨c.b,lo.i,lo.h⟩
def mf (c:et) (k0:aR->et->Option R):Option R :=
 let lit:=([0,1,2]:List Int)
 dC lit c fun r lo =>
 dW r fun i =>
 bif (!(i.Kind==0)) then
  aM 4 ⟨c.b,lo.i,lo.h⟩ fun cZ bX =>
  aM 17 ⟨c.b,bX.i,bX.h⟩ fun dQ bQ =>
  aJ (aZ 0 i.ax.length) <|
  let row:=(i.ax.set 0 dQ)
  aM 17 ⟨c.b,bQ.i,bQ.h⟩ fun lu mj =>
  let xg:=([0,0,lu]:List Int)
  dC xg ⟨c.b,mj.i,mj.h⟩ fun nj qd =>
  aJ (aZ 1 row.length) <|
  let b8:=(row.set 1 nj)
  k0 ⟨i.Kind,cZ,b8⟩ ⟨c.b,qd.i,qd.h⟩
 else
 k0 i ⟨c.b,lo.i,lo.h⟩
def il (xn:Int) (b:List UInt8) (q0:Int->Int->(List UInt8)->Option R):Nat->Int->Int->Int->(List UInt8)->Option R
 | 0,_,_,_,_=>none
 | m+1,i,mX,xh,out =>
  bif (decide (i<xn)) then
  iP ⟨b,mX,xh⟩ fun r lo =>
  aJ (j5 (IntKind.u8.wrap (r))&&true) <|
  let row:=(out++([(UInt8.ofNat ((IntKind.u8.wrap (r)).toNat))]))
  aJ (bg row) <|
  il xn b q0 m (aC (i+1)) lo.i lo.h row
  else
  q0 mX xh out
def pQ (n:Nat) (xn:Int) (c:et) (k0:ByteArray->et->Option R):Option R :=
 bif (decide (5000<xn)) then
  il 5000 c.b (fun i xh out =>
  k0 (yW out) ⟨c.b,i,xh⟩) n 0 c.i c.h ([])
 else
 il xn c.b (fun mX PH Cg =>
  k0 (yW Cg) ⟨c.b,mX,PH⟩) n 0 c.i c.h ([])
def sa (k0:Block->Option R):Option R :=
 k0 ⟨true,(List.replicate 4 aq),eS⟩
def fN (list:List ByteArray) (c:et) (k0:ByteArray->et->Option R):Option R :=
 aM (list.length:Int) c fun r lo =>
 aJ (aZ r list.length) <|
 k0 (list.getD r.toNat eS) ⟨c.b,lo.i,lo.h⟩
def qa (c:et) (k0:ByteArray->et->Option R):Option R :=
 let lit:=([S [97],S [98],S [99],S [100,100],S [101,49]]:List ByteArray)
 fN lit c fun r lo =>
 k0 r ⟨c.b,lo.i,lo.h⟩
def kQ (name:ByteArray) (dx:List Slot) (q0:Int->Option R) (q1:Option R):Nat->Int->Option R
 | 0,_=>none
 | m+1,i =>
  bif (decide (i<(dx.length:Int))) then
  aJ (!(!(name==eS))||(aZ i dx.length)) <|
  bif (!(name==eS))&&(((dx.getD i.toNat aq).Name)==name) then
   q0 i
  else
  kQ name dx q0 q1 m (aC (i+1))
  else
  q1
def p8 (n:Nat) (b:Block) (name:ByteArray) (k0:Int->Option R):Option R :=
 kQ name b.ah (fun x =>
  k0 x) (
  k0 (-1)) n 0
def dR (n:Nat) (dx:Bool) (fX:ByteArray) (b:List UInt8) (q0:Int->Int->(List Slot)->Option R):Nat->Int->Int->Int->(List Slot)->Option R
 | 0,_,_,_,_=>none
 | m+1,i,mX,xh,lF =>
  bif (decide (i<4)) then
  qa ⟨b,mX,xh⟩ fun r lo =>
  aM 8 ⟨b,lo.i,lo.h⟩ fun cZ bX =>
  p8 n ⟨dx,lF,fX⟩ r fun dQ =>
  cR 2 ⟨b,bX.i,bX.h⟩ fun lu bQ =>
  let z:=bif (decide (dQ<0)) then lu else false
  let uB:=bif (decide (dQ<0)) then bQ.i else bX.i
  let zl:=bif (decide (dQ<0)) then bQ.h else bX.h
  bif (decide (dQ<0))&&z then
   aJ (aZ i lF.length) <|
   let row:=(lF.set i.toNat ⟨r,(aC (1+cZ))⟩)
   dR n dx fX b q0 m (aC (i+1)) uB zl row
  else
  dR n dx fX b q0 m (aC (i+1)) uB zl lF
  else
  q0 mX xh lF
def lZ (n:Nat) (c:et) (k0:Block->et->Option R):Option R :=
 cR 2 c fun r lo =>
 bif r then
  aM 17 ⟨c.b,lo.i,lo.h⟩ fun cZ bX =>
  pQ n cZ ⟨c.b,bX.i,bX.h⟩ fun dQ bQ =>
  k0 ⟨false,[],dQ⟩ ⟨c.b,bQ.i,bQ.h⟩
 else
 sa fun b =>
 dR n b.bZ b.Text c.b (fun i xh v =>
  k0 ⟨b.bZ,v,b.Text⟩ ⟨c.b,i,xh⟩) n 0 lo.i lo.h b.ah
def fo (b:List UInt8) (q0:Int->Int->(List aR)->Option R):Nat->Int->Int->Int->(List aR)->Option R
 | 0,_,_,_,_=>none
 | m+1,i,mX,xh,ix =>
  bif (decide (i<8)) then
  cR 2 ⟨b,mX,xh⟩ fun r lo =>
  bif r then
   mf ⟨b,lo.i,lo.h⟩ fun M1 bX =>
   aJ (aZ i ix.length) <|
   let row:=(ix.set i.toNat M1)
   fo b q0 m (aC (i+1)) bX.i bX.h row
  else
  fo b q0 m (aC (i+1)) lo.i lo.h ix
  else
  q0 mX xh ix
def fi (n:Nat) (b:List UInt8) (q0:Int->Int->(List Block)->Option R):Nat->Int->Int->Int->(List Block)->Option R
 | 0,_,_,_,_=>none
 | m+1,i,mX,xh,uV =>
  bif (decide (i<16)) then
  cR 2 ⟨b,mX,xh⟩ fun r lo =>
  bif r then
   lZ n ⟨b,lo.i,lo.h⟩ fun xp bX =>
   aJ (aZ i uV.length) <|
   let row:=(uV.set i.toNat xp)
   fi n b q0 m (aC (i+1)) bX.i bX.h row
  else
  fi n b q0 m (aC (i+1)) lo.i lo.h uV
  else
  q0 mX xh uV
def gJ (b:List UInt8) (q0:Int->Int->(List Bool)->Option R):Nat->Int->Int->Int->(List Bool)->Option R
 | 0,_,_,_,_=>none
 | m+1,i,mX,xh,jb =>
  bif (decide (i<16)) then
  cR 2 ⟨b,mX,xh⟩ fun r lo =>
  aJ (aZ i jb.length) <|
  let row:=(jb.set i.toNat r)
  gJ b q0 m (aC (i+1)) lo.i lo.h row
  else
  q0 mX xh jb
def gI (b:List UInt8) (ix:List aR) (q0:Int->Int->(List Block)->Option R):Nat->Int->Int->Int->(List Block)->Option R
 | 0,_,_,_,_=>none
 | m+1,i,mX,xh,uV =>
  bif (decide (i<4)) then
  aJ (aZ 0 ix.length) <|
  aJ (aZ 0 (((ix.getD 0 ay).ax).length)) <|
  aJ (aZ (aC ((((ix.getD 0 ay).ax).getD 0 0)-1)) uV.length) <|
  let lit:=([S [112],S [113],S [114],S [115]]:List ByteArray)
  aJ (aZ i lit.length) <|
  aM 8 ⟨b,mX,xh⟩ fun r lo =>
  aJ (aZ i (((uV.getD ((aC ((((ix.getD 0 ay).ax).getD 0 0)-1)).toNat) aA).ah).length)) <|
  let row:=(uV.set ((aC ((((ix.getD 0 ay).ax).getD 0 0)-1)).toNat) ⟨(uV.getD ((aC ((((ix.getD 0 ay).ax).getD 0 0)-1)).toNat) aA).bZ,(((uV.getD ((aC ((((ix.getD 0 ay).ax).getD 0 0)-1)).toNat) aA).ah).set i.toNat ⟨(lit.getD i.toNat eS),(aC (1+r))⟩),(uV.getD ((aC ((((ix.getD 0 ay).ax).getD 0 0)-1)).toNat) aA).Text⟩)
  gI b ix q0 m (aC (i+1)) lo.i lo.h row
  else
  q0 mX xh uV
def pV (n:Nat) (c:et) (k0:aa->et->Option R):Option R :=
 nQ n fun d =>
 fo c.b (fun i xh v =>
  fi n c.b (fun mX PH eF =>
  gJ c.b (fun M1 acQ dx =>
   cR 6 ⟨c.b,M1,acQ⟩ fun r lo =>
   bif !r then
   aM 16 ⟨c.b,lo.i,lo.h⟩ fun cZ bX =>
   aM 17 ⟨c.b,bX.i,bX.h⟩ fun dQ bQ =>
   let lit:=([(aC (1+cZ)),dQ]:List Int)
   aJ (aZ 0 v.length) <|
   let row:=(v.set 0 ⟨2,1,lit⟩)
   aJ (aZ 0 row.length) <|
   aJ (aZ 0 (((row.getD 0 ay).ax).length)) <|
   sa fun b =>
   aJ (aZ (aC ((((row.getD 0 ay).ax).getD 0 0)-1)) eF.length) <|
   let b8:=(eF.set ((aC ((((row.getD 0 ay).ax).getD 0 0)-1)).toNat) b)
   gI c.b row (fun i_3 acA fX =>
    k0 ⟨⟨dx,d.au.bB⟩,row,fX⟩ ⟨c.b,i_3,acA⟩) n 0 bQ.i bQ.h b8
   else
   k0 ⟨⟨dx,d.au.bB⟩,v,eF⟩ ⟨c.b,lo.i,lo.h⟩) n 0 mX PH d.au.ab) n 0 i xh d.ab) n 0 c.i c.h d.ad
def sI (b:au) (k0:Bool->Option R):Option R :=
 k0 (((b.ab.length:Int)==16)&&((b.bB.length:Int)==8))
def ch (x:Int) (least:Int) (most:Int) (k0:Bool->Option R):Option R :=
 k0 ((decide (least<=x))&&(decide (x<=most)))
def jG (v:Int) (dx:List Int) (q0:Bool->Option R) (q1:Option R):Nat->Int->Option R
 | 0,_=>none
 | m+1,i =>
  bif (decide (i<2)) then
  aJ (aZ i dx.length) <|
  ch (dx.getD i.toNat 0) 0 16 fun r =>
  aJ (!((!(!r))&&(v==0))||(aZ i dx.length)) <|
  bif (!r)||((v==0)&&(!((dx.getD i.toNat 0)==0))) then
   q0 false
  else
  jG v dx q0 q1 m (aC (i+1))
  else
  q1
def nY (n:Nat) (x:aR) (k0:Bool->Option R):Option R :=
 ch x.Kind 0 2 fun r =>
 ch x.Links 0 200 fun cZ =>
 let z:=bif !(!r) then cZ else false
 bif ((!r)||(!z))||(!((x.ax.length:Int)==2)) then
  k0 false
 else
 jG x.Kind x.ax (fun fI =>
  k0 fI) (
  k0 ((!(x.Kind==0))||(x.Links==0))) n 0
def kR (s:ByteArray) (q0:Bool->Option R) (q1:Option R):Nat->Int->Option R
 | 0,_=>none
 | m+1,i =>
  bif (decide (i<(s.size:Int))) then
  aJ (aZ i s.size) <|
  aJ (!(!(decide ((bt s i.toNat:Int)<97)))||(aZ i s.size)) <|
  aJ (!((decide ((bt s i.toNat:Int)<97))||(decide (122<(bt s i.toNat:Int))))||(aZ i s.size)) <|
  aJ (!(((decide ((bt s i.toNat:Int)<97))||(decide (122<(bt s i.toNat:Int))))&&(!(decide ((bt s i.toNat:Int)<48))))||(aZ i s.size)) <|
  bif ((decide ((bt s i.toNat:Int)<97))||(decide (122<(bt s i.toNat:Int))))&&((decide ((bt s i.toNat:Int)<48))||(decide (57<(bt s i.toNat:Int)))) then
   q0 false
  else
  kR s q0 q1 m (aC (i+1))
  else
  q1
def j7 (n:Nat) (s:ByteArray) (k0:Bool->Option R):Option R :=
 kR s (fun x =>
  k0 x) (
  ch (s.size:Int) 1 6 fun r =>
  k0 r) n 0
def iG (i:Int) (dx:ByteArray) (jb:List Slot) (q0:Bool->Option R) (q1:Option R):Nat->Int->Option R
 | 0,_=>none
 | m+1,xk =>
  bif (decide (xk<i)) then
  aJ (aZ xk jb.length) <|
  bif (((jb.getD xk.toNat aq).Name)==dx) then
   q0 false
  else
  iG i dx jb q0 q1 m (aC (xk+1))
  else
  q1
def ft (n:Nat) (dx:List Slot) (q0:Bool->Option R) (q1:Option R):Nat->Int->Option R
 | 0,_=>none
 | m+1,i =>
  bif (decide (i<4)) then
  aJ (aZ i dx.length) <|
  let el:=(dx.getD i.toNat aq)
  bif (el.Name==eS)&&(el.Ino==0) then
   ft n dx q0 q1 m (aC (i+1))
  else
  j7 n el.Name fun r =>
  ch el.Ino 1 8 fun cZ =>
  let z:=bif !(!r) then cZ else false
  bif (!r)||(!z) then
   q0 false
  else
  iG i el.Name dx (fun x =>
   q0 x) (
   ft n dx q0 q1 m (aC (i+1))) m 0
  else
  q1
def qb (n:Nat) (b:Block) (k0:Bool->Option R):Option R :=
 bif !b.bZ then
  k0 (((b.ah.length:Int)==0)&&(decide ((b.Text.size:Int)<=16)))
 else
 bif (!((b.ah.length:Int)==4))||(!(b.Text==eS)) then
  k0 false
 else
 ft n b.ah (fun x =>
  k0 x) (
  k0 true) n 0
def kI (n:Nat) (dx:List aR) (q0:Bool->Option R) (q1:Option R):Nat->Int->Option R
 | 0,_=>none
 | m+1,i =>
  bif (decide (i<(dx.length:Int))) then
  aJ (aZ i dx.length) <|
  let el:=(dx.getD i.toNat ay)
  nY n el fun r =>
  bif !r then
   q0 false
  else
  kI n dx q0 q1 m (aC (i+1))
  else
  q1
def g6 (n:Nat) (fX:List Block) (q0:Bool->Option R) (q1:Option R):Nat->Int->Option R
 | 0,_=>none
 | m+1,i =>
  bif (decide (i<(fX.length:Int))) then
  aJ (aZ i fX.length) <|
  let el:=(fX.getD i.toNat aA)
  qb n el fun r =>
  bif !r then
   q0 false
  else
  g6 n fX q0 q1 m (aC (i+1))
  else
  q1
def p6 (n:Nat) (d:aa) (k0:Bool->Option R):Option R :=
 sI d.au fun r =>
 bif ((!r)||(!((d.ad.length:Int)==8)))||(!((d.ab.length:Int)==16)) then
  k0 false
 else
 kI n d.ad (fun x =>
  k0 x) (
  g6 n d.ab (fun fI =>
  k0 fI) (
  k0 true) n 0) n 0
def ic (list:List Bool) (q0:Int->Option R):Nat->Int->Int->Int->Option R
 | 0,_,_,_=>none
 | m+1,xn,bit,i =>
  bif (decide (i<(list.length:Int))) then
  aJ (aZ i list.length) <|
  bif (list.getD i.toNat false) then
   ic list q0 m (aC (xn+bit)) (aC (2*bit)) (aC (i+1))
  else
  ic list q0 m xn (aC (2*bit)) (aC (i+1))
  else
  q0 xn
def nV (n:Nat) (list:List Bool) (k0:Int->Option R):Option R :=
 ic list (fun xn =>
  k0 (IntKind.u8.wrap (xn))) n 0 1 0
def qh (n:Nat) (b:au) (k0:ByteArray->Bool->Option R):Option R :=
 sI b fun r =>
 bif !r then
  k0 eS false
 else
 aJ (xf 8 b.ab.length) <|
 nV n (sub b.ab 0 8) fun cZ =>
 aJ (xf 8 b.ab.length) <|
 nV n (sub b.ab 8 (b.ab.length-8)) fun dQ =>
 nV n b.bB fun lu =>
 let lit:=([(UInt8.ofNat cZ.toNat),(UInt8.ofNat dQ.toNat),(UInt8.ofNat lu.toNat)]:List UInt8)
 aJ (j5 cZ&&(j5 dQ&&(j5 lu&&true))) <|
 k0 (yW lit) true
def mE (n:Nat) (x:aR) (k0:ByteArray->Bool->Option R):Option R :=
 nY n x fun r =>
 bif !r then
  k0 eS false
 else
 aJ (aZ 0 x.ax.length) <|
 aJ (aZ 1 x.ax.length) <|
 let lit:=([(UInt8.ofNat ((IntKind.u8.wrap (x.Kind)).toNat)),(UInt8.ofNat ((IntKind.u8.wrap (x.Links)).toNat)),(UInt8.ofNat ((IntKind.u8.wrap ((x.ax.getD 0 0))).toNat)),(UInt8.ofNat ((IntKind.u8.wrap ((x.ax.getD 1 0))).toNat))]:List UInt8)
 aJ (j5 (IntKind.u8.wrap (x.Kind))&&(j5 (IntKind.u8.wrap (x.Links))&&(j5 (IntKind.u8.wrap ((x.ax.getD 0 0)))&&(j5 (IntKind.u8.wrap ((x.ax.getD 1 0)))&&true)))) <|
 k0 (yW lit) true
def mF (q0:Int->(List UInt8)->Option R):Nat->Int->(List UInt8)->Option R
 | 0,_,_=>none
 | m+1,xn,out =>
  bif (decide (127<xn)) then
  aJ (j5 (IntKind.u8.wrap ((aC ((xn.tmod 128)+128))))&&true) <|
  let row:=(out++([(UInt8.ofNat ((IntKind.u8.wrap ((aC ((xn.tmod 128)+128)))).toNat))]))
  aJ (bg row) <|
  mF q0 m (aC (xn.tdiv 128)) row
  else
  q0 xn out
def tg (n:Nat) (xn:Int) (k0:ByteArray->Option R):Option R :=
 mF (fun YC out =>
  aJ (j5 (IntKind.u8.wrap (YC))&&true) <|
  let row:=(out++([(UInt8.ofNat ((IntKind.u8.wrap (YC)).toNat))]))
  aJ (bg row) <|
  k0 (yW row)) n xn ([])
def gQ (n:Nat) (dx:List Slot) (q0:ByteArray->Option R):Nat->ByteArray->Int->Option R
 | 0,_,_=>none
 | m+1,s,i =>
  bif (decide (i<4)) then
  aJ (aZ i dx.length) <|
  aJ (j5 (IntKind.u8.wrap ((dx.getD i.toNat aq).Ino))&&true) <|
  aJ (mi s (yW ([(UInt8.ofNat ((IntKind.u8.wrap ((dx.getD i.toNat aq).Ino)).toNat))]))) <|
  aJ (aZ i dx.length) <|
  tg n (((dx.getD i.toNat aq).Name).size:Int) fun r =>
  aJ (mi (s++(yW ([(UInt8.ofNat ((IntKind.u8.wrap ((dx.getD i.toNat aq).Ino)).toNat))]))) r) <|
  aJ (aZ i dx.length) <|
  aJ (mi ((s++(yW ([(UInt8.ofNat ((IntKind.u8.wrap ((dx.getD i.toNat aq).Ino)).toNat))])))++r) ((dx.getD i.toNat aq).Name)) <|
  gQ n dx q0 m (((s++(yW ([(UInt8.ofNat ((IntKind.u8.wrap ((dx.getD i.toNat aq).Ino)).toNat))])))++r)++((dx.getD i.toNat aq).Name)) (aC (i+1))
  else
  q0 s
def g7 (n:Nat) (b:Block) (k0:ByteArray->Bool->Option R):Option R :=
 qb n b fun r =>
 bif !r then
  k0 eS false
 else
 bif !b.bZ then
  aJ (mi (S [116]) b.Text) <|
  k0 ((S [116])++b.Text) true
 else
 gQ n b.ah (fun s =>
  k0 s true) n (S [100]) 0
def pT (n:Nat) (d:aa) (u:Int) (k0:ByteArray->Option R):Option R :=
 bif (u==0) then
  qh n d.au fun r cZ =>
  k0 r
 else
 bif (decide (u<=4)) then
  aJ (aZ (aC ((aC (2*u))-2)) d.ad.length) <|
  let el:=(d.ad.getD ((aC ((aC (2*u))-2)).toNat) ay)
  mE n el fun dQ lu =>
  aJ (aZ (aC ((aC (2*u))-1)) d.ad.length) <|
  let CW:=(d.ad.getD ((aC ((aC (2*u))-1)).toNat) ay)
  mE n CW fun nj xt =>
  aJ (mi dQ nj) <|
  k0 (dQ++nj)
 else
 aJ (aZ (aC (u-5)) d.ab.length) <|
 let acX:=(d.ab.getD ((aC (u-5)).toNat) aA)
 g7 n acX fun D8 uo =>
 k0 D8
def iE (n:Nat) (v:List Bool) (eF:List Bool) (dx:List aR) (fX:List Block) (q0:(List ByteArray)->Option R):Nat->Int->(List ByteArray)->Option R
 | 0,_,_=>none
 | m+1,u,lF =>
  bif (decide (u<21)) then
  pT n ⟨⟨v,eF⟩,dx,fX⟩ u fun r =>
  let row:=(lF++([r]))
  aJ (bg row) <|
  iE n v eF dx fX q0 m (aC (u+1)) row
  else
  q0 lF
def kE (n:Nat) (d:aa) (k0:Device->Bool->Option R):Option R :=
 p6 n d fun r =>
 bif !r then
  k0 ⟨[]⟩ false
 else
 iE n d.au.ab d.au.bB d.ad d.ab (fun v =>
  k0 ⟨v⟩ true) n 0 ([])
def ui (b:au) (k0:au->Option R):Option R :=
 let row:=(([])++b.ab)
 aJ (bg row) <|
 let b8:=(([])++b.bB)
 aJ (bg b8) <|
 k0 ⟨row,b8⟩
def nX (x:aR) (k0:aR->Option R):Option R :=
 let row:=(([])++x.ax)
 aJ (bg row) <|
 k0 ⟨x.Kind,x.Links,row⟩
def mb (b:Block) (k0:Block->Option R):Option R :=
 let row:=(([])++b.ah)
 aJ (bg row) <|
 k0 ⟨b.bZ,row,b.Text⟩
def jN (dx:List aR) (q0:(List aR)->Option R):Nat->Int->(List aR)->Option R
 | 0,_,_=>none
 | m+1,i,dJ =>
  bif (decide (i<(dx.length:Int))) then
  aJ (aZ i dx.length) <|
  let el:=(dx.getD i.toNat ay)
  nX el fun mX =>
  let row:=(dJ++([mX]))
  aJ (bg row) <|
  jN dx q0 m (aC (i+1)) row
  else
  q0 dJ
def gz (fX:List Block) (q0:(List Block)->Option R):Nat->Int->(List Block)->Option R
 | 0,_,_=>none
 | m+1,i,oR =>
  bif (decide (i<(fX.length:Int))) then
  aJ (aZ i fX.length) <|
  let el:=(fX.getD i.toNat aA)
  mb el fun b =>
  let row:=(oR++([b]))
  aJ (bg row) <|
  gz fX q0 m (aC (i+1)) row
  else
  q0 oR
def iF (n:Nat) (d:aa) (k0:aa->Option R):Option R :=
 ui d.au fun b =>
 jN d.ad (fun v =>
  gz d.ab (fun eF =>
  k0 ⟨b,v,eF⟩) n 0 ([])) n 0 ([])
def xc (n:Nat) (d:aa) (k0:Mem->Option R):Option R :=
 iF n d fun xx =>
 k0 ⟨xx,(List.replicate 21 false),[],1⟩
def zW (n:Nat) (k0:Fs->Option R):Option R :=
 nQ n fun d =>
 kE n d fun xx r =>
 nQ n fun XP =>
 xc n XP fun xm =>
 k0 ⟨xm,xx⟩
def fm (vK:List Node) (q0:(List ByteArray)->(List ByteArray)->(List ByteArray)->Option R):Nat->Int->(List ByteArray)->(List ByteArray)->(List ByteArray)->Option R
 | 0,_,_,_,_=>none
 | m+1,i,files,dirs,all =>
  bif (decide (i<(vK.length:Int))) then
  aJ (aZ i vK.length) <|
  let row:=(all++([(vK.getD i.toNat eA).Path]))
  aJ (bg row) <|
  aJ (aZ i vK.length) <|
  bif (vK.getD i.toNat eA).bZ then
   aJ (aZ i vK.length) <|
   let b8:=(dirs++([(vK.getD i.toNat eA).Path]))
   aJ (bg b8) <|
   fm vK q0 m (aC (i+1)) files b8 row
  else
  aJ (aZ i vK.length) <|
  let fg:=(files++([(vK.getD i.toNat eA).Path]))
  aJ (bg fg) <|
  fm vK q0 m (aC (i+1)) fg dirs row
  else
  q0 files dirs all
def c9 (rV:List Bool) (q0:(List Int)->Option R):Nat->Int->(List Int)->Option R
 | 0,_,_=>none
 | m+1,u,bG =>
  bif (decide (u<(rV.length:Int))) then
  aJ (aZ u rV.length) <|
  bif (rV.getD u.toNat false) then
   let row:=(bG++([u]))
   aJ (bg row) <|
   c9 rV q0 m (aC (u+1)) row
  else
  c9 rV q0 m (aC (u+1)) bG
  else
  q0 bG
def ej (n:Nat) (w:World) (c:et) (k0:Event->et->Option R):Option R :=
 let lit:=([1,1,1,2,2,3,3,3,4,4,5,5,6,6,6,6,6,6,6,7]:List Int)
 dC lit c fun r lo =>
 fm w.Model (fun files dirs all =>
  aM (dirs.length:Int) ⟨c.b,lo.i,lo.h⟩ fun cZ bX =>
  aJ (aZ cZ dirs.length) <|
  aJ (mi (dirs.getD cZ.toNat eS) (S [47])) <|
  qa ⟨c.b,bX.i,bX.h⟩ fun dQ bQ =>
  aJ (mi ((dirs.getD cZ.toNat eS)++(S [47])) dQ) <|
  bif (r==1) then
  bif (r==1) then
   k0 ⟨r,(((dirs.getD cZ.toNat eS)++(S [47]))++dQ),eS,0,eS⟩ ⟨c.b,bQ.i,bQ.h⟩
  else
  bif (r==3) then
   bif (r==3) then
   bif (decide (0<(files.length:Int))) then
    aM (files.length:Int) ⟨c.b,bQ.i,bQ.h⟩ fun lu mj =>
    aJ (aZ lu files.length) <|
    bif (r==5) then
    k0 ⟨r,(files.getD lu.toNat eS),(((dirs.getD cZ.toNat eS)++(S [47]))++dQ),0,eS⟩ ⟨c.b,mj.i,mj.h⟩
    else
    let xg:=([eS,S [120],S [104,101,108,108,111],S [48,49,50,51,52,53,54,55,56,57,97,98,99,100,101,102]]:List ByteArray)
    fN xg ⟨c.b,mj.i,mj.h⟩ fun nj qd =>
    aM 2 ⟨c.b,qd.i,qd.h⟩ fun xt HJ =>
    k0 ⟨r,(files.getD lu.toNat eS),eS,xt,nj⟩ ⟨c.b,HJ.i,HJ.h⟩
   else
   bif (r==5) then
    k0 ⟨r,S [47,97],(((dirs.getD cZ.toNat eS)++(S [47]))++dQ),0,eS⟩ ⟨c.b,bQ.i,bQ.h⟩
   else
   let Qi:=([eS,S [120],S [104,101,108,108,111],S [48,49,50,51,52,53,54,55,56,57,97,98,99,100,101,102]]:List ByteArray)
   fN Qi ⟨c.b,bQ.i,bQ.h⟩ fun D8 HD =>
   aM 2 ⟨c.b,HD.i,HD.h⟩ fun uo YK =>
   k0 ⟨r,S [47,97],eS,uo,D8⟩ ⟨c.b,YK.i,YK.h⟩
   else
   bif (r==4) then
   bif (decide (0<(all.length:Int))) then
    aM (all.length:Int) ⟨c.b,bQ.i,bQ.h⟩ fun D5 Yp =>
    aJ (aZ D5 all.length) <|
    k0 ⟨r,(all.getD D5.toNat eS),eS,0,eS⟩ ⟨c.b,Yp.i,Yp.h⟩
   else
   k0 ⟨r,S [47,98],eS,0,eS⟩ ⟨c.b,bQ.i,bQ.h⟩
   else
   bif (r==6) then
   aM 21 ⟨c.b,bQ.i,bQ.h⟩ fun KW SS =>
   c9 w.Fs.Mem.an (fun bG =>
    cR 6 ⟨c.b,SS.i,SS.h⟩ fun nh TS =>
    let z:=bif (decide (0<(bG.length:Int))) then nh else false
    let uB:=bif (decide (0<(bG.length:Int))) then TS.i else SS.i
    let zl:=bif (decide (0<(bG.length:Int))) then TS.h else SS.h
    bif (decide (0<(bG.length:Int)))&&(!z) then
    aM (bG.length:Int) ⟨c.b,uB,zl⟩ fun C0 TX =>
    aJ (aZ C0 bG.length) <|
    k0 ⟨r,eS,eS,(bG.getD C0.toNat 0),eS⟩ ⟨c.b,TX.i,TX.h⟩
    else
    k0 ⟨r,eS,eS,KW,eS⟩ ⟨c.b,uB,zl⟩) n 0 ([])
   else
   k0 ⟨r,eS,eS,0,eS⟩ ⟨c.b,bQ.i,bQ.h⟩
  else
  bif (r==5) then
   bif (decide (0<(files.length:Int))) then
   aM (files.length:Int) ⟨c.b,bQ.i,bQ.h⟩ fun MY K2 =>
   aJ (aZ MY files.length) <|
   bif (r==5) then
    k0 ⟨r,(files.getD MY.toNat eS),(((dirs.getD cZ.toNat eS)++(S [47]))++dQ),0,eS⟩ ⟨c.b,K2.i,K2.h⟩
   else
   let lit_3:=([eS,S [120],S [104,101,108,108,111],S [48,49,50,51,52,53,54,55,56,57,97,98,99,100,101,102]]:List ByteArray)
   fN lit_3 ⟨c.b,K2.i,K2.h⟩ fun Ju Tq =>
   aM 2 ⟨c.b,Tq.i,Tq.h⟩ fun ME TV =>
   k0 ⟨r,(files.getD MY.toNat eS),eS,ME,Ju⟩ ⟨c.b,TV.i,TV.h⟩
   else
   bif (r==5) then
   k0 ⟨r,S [47,97],(((dirs.getD cZ.toNat eS)++(S [47]))++dQ),0,eS⟩ ⟨c.b,bQ.i,bQ.h⟩
   else
   let X0:=([eS,S [120],S [104,101,108,108,111],S [48,49,50,51,52,53,54,55,56,57,97,98,99,100,101,102]]:List ByteArray)
   fN X0 ⟨c.b,bQ.i,bQ.h⟩ fun SD Tu =>
   aM 2 ⟨c.b,Tu.i,Tu.h⟩ fun SY TC =>
   k0 ⟨r,S [47,97],eS,SY,SD⟩ ⟨c.b,TC.i,TC.h⟩
  else
  bif (r==4) then
   bif (decide (0<(all.length:Int))) then
   aM (all.length:Int) ⟨c.b,bQ.i,bQ.h⟩ fun Jt TD =>
   aJ (aZ Jt all.length) <|
   k0 ⟨r,(all.getD Jt.toNat eS),eS,0,eS⟩ ⟨c.b,TD.i,TD.h⟩
   else
   k0 ⟨r,S [47,98],eS,0,eS⟩ ⟨c.b,bQ.i,bQ.h⟩
  else
  bif (r==6) then
   aM 21 ⟨c.b,bQ.i,bQ.h⟩ fun X2 KS =>
   c9 w.Fs.Mem.an (fun rm =>
   cR 6 ⟨c.b,KS.i,KS.h⟩ fun SC TG =>
   let M3:=bif (decide (0<(rm.length:Int))) then SC else false
   let TW:=bif (decide (0<(rm.length:Int))) then TG.i else KS.i
   let Ww:=bif (decide (0<(rm.length:Int))) then TG.h else KS.h
   bif (decide (0<(rm.length:Int)))&&(!M3) then
    aM (rm.length:Int) ⟨c.b,TW,Ww⟩ fun Ql TN =>
    aJ (aZ Ql rm.length) <|
    k0 ⟨r,eS,eS,(rm.getD Ql.toNat 0),eS⟩ ⟨c.b,TN.i,TN.h⟩
   else
   k0 ⟨r,eS,eS,X2,eS⟩ ⟨c.b,TW,Ww⟩) n 0 ([])
  else
  k0 ⟨r,eS,eS,0,eS⟩ ⟨c.b,bQ.i,bQ.h⟩
  else
  bif (r==2) then
  k0 ⟨r,(((dirs.getD cZ.toNat eS)++(S [47]))++dQ),eS,0,eS⟩ ⟨c.b,bQ.i,bQ.h⟩
  else
  bif (r==3) then
  bif (r==3) then
   bif (decide (0<(files.length:Int))) then
   aM (files.length:Int) ⟨c.b,bQ.i,bQ.h⟩ fun Vv K6 =>
   aJ (aZ Vv files.length) <|
   bif (r==5) then
    k0 ⟨r,(files.getD Vv.toNat eS),(((dirs.getD cZ.toNat eS)++(S [47]))++dQ),0,eS⟩ ⟨c.b,K6.i,K6.h⟩
   else
   let XJ:=([eS,S [120],S [104,101,108,108,111],S [48,49,50,51,52,53,54,55,56,57,97,98,99,100,101,102]]:List ByteArray)
   fN XJ ⟨c.b,K6.i,K6.h⟩ fun ac4 TT =>
   aM 2 ⟨c.b,TT.i,TT.h⟩ fun acr Tn =>
   k0 ⟨r,(files.getD Vv.toNat eS),eS,acr,ac4⟩ ⟨c.b,Tn.i,Tn.h⟩
   else
   bif (r==5) then
   k0 ⟨r,S [47,97],(((dirs.getD cZ.toNat eS)++(S [47]))++dQ),0,eS⟩ ⟨c.b,bQ.i,bQ.h⟩
   else
   let XQ:=([eS,S [120],S [104,101,108,108,111],S [48,49,50,51,52,53,54,55,56,57,97,98,99,100,101,102]]:List ByteArray)
   fN XQ ⟨c.b,bQ.i,bQ.h⟩ fun adk TB =>
   aM 2 ⟨c.b,TB.i,TB.h⟩ fun abF T9 =>
   k0 ⟨r,S [47,97],eS,abF,adk⟩ ⟨c.b,T9.i,T9.h⟩
  else
  bif (r==4) then
   bif (decide (0<(all.length:Int))) then
   aM (all.length:Int) ⟨c.b,bQ.i,bQ.h⟩ fun Yo Tz =>
   aJ (aZ Yo all.length) <|
   k0 ⟨r,(all.getD Yo.toNat eS),eS,0,eS⟩ ⟨c.b,Tz.i,Tz.h⟩
   else
   k0 ⟨r,S [47,98],eS,0,eS⟩ ⟨c.b,bQ.i,bQ.h⟩
  else
  bif (r==6) then
   aM 21 ⟨c.b,bQ.i,bQ.h⟩ fun ab8 KU =>
   c9 w.Fs.Mem.an (fun rf =>
   cR 6 ⟨c.b,KU.i,KU.h⟩ fun ab3 TZ =>
   let Y9:=bif (decide (0<(rf.length:Int))) then ab3 else false
   let YM:=bif (decide (0<(rf.length:Int))) then TZ.i else KU.i
   let VW:=bif (decide (0<(rf.length:Int))) then TZ.h else KU.h
   bif (decide (0<(rf.length:Int)))&&(!Y9) then
    aM (rf.length:Int) ⟨c.b,YM,VW⟩ fun Yg Tr =>
    aJ (aZ Yg rf.length) <|
    k0 ⟨r,eS,eS,(rf.getD Yg.toNat 0),eS⟩ ⟨c.b,Tr.i,Tr.h⟩
   else
   k0 ⟨r,eS,eS,ab8,eS⟩ ⟨c.b,YM,VW⟩) n 0 ([])
  else
  k0 ⟨r,eS,eS,0,eS⟩ ⟨c.b,bQ.i,bQ.h⟩
  else
  bif (r==5) then
  bif (decide (0<(files.length:Int))) then
   aM (files.length:Int) ⟨c.b,bQ.i,bQ.h⟩ fun Vd K8 =>
   aJ (aZ Vd files.length) <|
   bif (r==5) then
   k0 ⟨r,(files.getD Vd.toNat eS),(((dirs.getD cZ.toNat eS)++(S [47]))++dQ),0,eS⟩ ⟨c.b,K8.i,K8.h⟩
   else
   let Yh:=([eS,S [120],S [104,101,108,108,111],S [48,49,50,51,52,53,54,55,56,57,97,98,99,100,101,102]]:List ByteArray)
   fN Yh ⟨c.b,K8.i,K8.h⟩ fun acO T2 =>
   aM 2 ⟨c.b,T2.i,T2.h⟩ fun abB TM =>
   k0 ⟨r,(files.getD Vd.toNat eS),eS,abB,acO⟩ ⟨c.b,TM.i,TM.h⟩
  else
  bif (r==5) then
   k0 ⟨r,S [47,97],(((dirs.getD cZ.toNat eS)++(S [47]))++dQ),0,eS⟩ ⟨c.b,bQ.i,bQ.h⟩
  else
  let Yn:=([eS,S [120],S [104,101,108,108,111],S [48,49,50,51,52,53,54,55,56,57,97,98,99,100,101,102]]:List ByteArray)
  fN Yn ⟨c.b,bQ.i,bQ.h⟩ fun acn T7 =>
  aM 2 ⟨c.b,T7.i,T7.h⟩ fun abM TL =>
  k0 ⟨r,S [47,97],eS,abM,acn⟩ ⟨c.b,TL.i,TL.h⟩
  else
  bif (r==4) then
  bif (decide (0<(all.length:Int))) then
   aM (all.length:Int) ⟨c.b,bQ.i,bQ.h⟩ fun YH TR =>
   aJ (aZ YH all.length) <|
   k0 ⟨r,(all.getD YH.toNat eS),eS,0,eS⟩ ⟨c.b,TR.i,TR.h⟩
  else
  k0 ⟨r,S [47,98],eS,0,eS⟩ ⟨c.b,bQ.i,bQ.h⟩
  else
  bif (r==6) then
  aM 21 ⟨c.b,bQ.i,bQ.h⟩ fun abZ K1 =>
  c9 w.Fs.Mem.an (fun q8 =>
   cR 6 ⟨c.b,K1.i,K1.h⟩ fun acd Ub =>
   let Yl:=bif (decide (0<(q8.length:Int))) then acd else false
   let Yx:=bif (decide (0<(q8.length:Int))) then Ub.i else K1.i
   let XZ:=bif (decide (0<(q8.length:Int))) then Ub.h else K1.h
   bif (decide (0<(q8.length:Int)))&&(!Yl) then
   aM (q8.length:Int) ⟨c.b,Yx,XZ⟩ fun X3 TY =>
   aJ (aZ X3 q8.length) <|
   k0 ⟨r,eS,eS,(q8.getD X3.toNat 0),eS⟩ ⟨c.b,TY.i,TY.h⟩
   else
   k0 ⟨r,eS,eS,abZ,eS⟩ ⟨c.b,Yx,XZ⟩) n 0 ([])
  else
  k0 ⟨r,eS,eS,0,eS⟩ ⟨c.b,bQ.i,bQ.h⟩) n 0 ([]) ([eS]) ([])
def jR (Cx:List bO) (q0:(List bO)->Option R):Nat->Int->(List bO)->Option R
 | 0,_,_=>none
 | m+1,i,YB =>
  bif (decide (i<(Cx.length:Int))) then
  aJ (aZ i Cx.length) <|
  let el:=(Cx.getD i.toNat aT)
  let row:=(([])++((Cx.getD i.toNat aT).ab))
  aJ (bg row) <|
  let b8:=(YB++([⟨el.Id,el.Kind,el.Ino,el.Ptr,el.Block,el.Slot,el.Name,el.au,el.gy,el.bC,row⟩]))
  aJ (bg b8) <|
  jR Cx q0 m (aC (i+1)) b8
  else
  q0 YB
def dw (n:Nat) (xm:Mem) (k0:Mem->Option R):Option R :=
 iF n xm.aa fun d =>
 let row:=(([])++xm.an)
 aJ (bg row) <|
 jR xm.ae (fun v =>
  k0 ⟨d,row,v,xm.Next⟩) n 0 ([])
def fR (n:Nat) (p:ByteArray) (q0:Bool->(List ByteArray)->Option R) (q1:(List ByteArray)->Option R):Nat->Int->Int->(List ByteArray)->Option R
 | 0,_,_,_=>none
 | m+1,begin,i,out =>
  bif (decide (i<=(p.size:Int))) then
  aJ (!(decide (i<(p.size:Int)))||(aZ i p.size)) <|
  bif (decide (i<(p.size:Int)))&&(!((bt p i.toNat:Int)==47)) then
   fR n p q0 q1 m begin (aC (i+1)) out
  else
  aJ (jX begin i p.size) <|
  j7 n (p.extract begin.toNat i.toNat) fun r =>
  bif !r then
   q0 false ([])
  else
  aJ (jX begin i p.size) <|
  let row:=(out++([(p.extract begin.toNat i.toNat)]))
  aJ (bg row) <|
  fR n p q0 q1 m (aC (i+1)) (aC (i+1)) row
  else
  q1 out
def jn (n:Nat) (p:ByteArray) (k0:(List ByteArray)->Bool->Option R):Option R :=
 aJ (!(!((p.size:Int)==0))||(aZ 0 p.size)) <|
 bif ((p.size:Int)==0)||(!((bt p 0:Int)==47)) then
  k0 ([]) false
 else
 bif (p==(S [47])) then
  k0 ([]) true
 else
 fR n p (fun x fI =>
  k0 fI x) (fun out =>
  bif (decide (4<(out.length:Int))) then
  k0 ([]) false
  else
  k0 out true) n 1 1 ([])
def iQ (list:List ByteArray) (q0:ByteArray->Option R):Nat->ByteArray->Int->Option R
 | 0,_,_=>none
 | m+1,s,i =>
  bif (decide ((aC (i+1))<(list.length:Int))) then
  aJ (mi s (S [47])) <|
  aJ (aZ i list.length) <|
  aJ (mi (s++(S [47])) (list.getD i.toNat eS)) <|
  iQ list q0 m ((s++(S [47]))++(list.getD i.toNat eS)) (aC (i+1))
  else
  q0 s
def ky (n:Nat) (p:ByteArray) (k0:ByteArray->ByteArray->Bool->Option R):Option R :=
 jn n p fun r cZ =>
 bif (!cZ)||((r.length:Int)==0) then
  k0 eS eS false
 else
 iQ r (fun s =>
  bif (s==eS) then
  aJ (aZ (aC ((r.length:Int)-1)) r.length) <|
  k0 (S [47]) (r.getD ((aC ((r.length:Int)-1)).toNat) eS) true
  else
  aJ (aZ (aC ((r.length:Int)-1)) r.length) <|
  k0 s (r.getD ((aC ((r.length:Int)-1)).toNat) eS) true) n eS 0
def kJ (HF:List Int) (q0:Bool->Option R) (q1:Option R):Nat->Int->Option R
 | 0,_=>none
 | m+1,xk =>
  bif (decide (xk<(HF.length:Int))) then
  aJ (aZ xk HF.length) <|
  ch (HF.getD xk.toNat 0) 1 16 fun r =>
  bif !r then
   q0 false
  else
  kJ HF q0 q1 m (aC (xk+1))
  else
  q1
def fw (i:Int) (eF:Int) (Js:List bO) (q0:Bool->Option R) (q1:Option R):Nat->Int->Option R
 | 0,_=>none
 | m+1,xk =>
  bif (decide (xk<i)) then
  aJ (aZ xk Js.length) <|
  bif (((Js.getD xk.toNat aT).Id)==eF) then
   q0 false
  else
  fw i eF Js q0 q1 m (aC (xk+1))
  else
  q1
def wV (n:Nat) (xm:Mem) (i:Int) (k0:Bool->Option R):Option R :=
 aJ (aZ i xm.ae.length) <|
 let el:=(xm.ae.getD i.toNat aT)
 ch el.Id 1 (aC (xm.Next-1)) fun r =>
 ch el.Kind 1 6 fun cZ =>
 let z:=bif !(!r) then cZ else false
 ch el.Ino 1 8 fun dQ =>
 let uB:=bif !((!r)||(!z)) then dQ else false
 ch el.Ptr 0 1 fun lu =>
 let zl:=bif !(((!r)||(!z))||(!uB)) then lu else false
 ch el.Block 0 16 fun nj =>
 let M3:=bif !((((!r)||(!z))||(!uB))||(!zl)) then nj else false
 ch el.Slot 0 3 fun xt =>
 let TW:=bif !(((((!r)||(!z))||(!uB))||(!zl))||(!M3)) then xt else false
 ch el.bC 0 (aC (xm.Next-1)) fun D8 =>
 let Ww:=bif !((((((!r)||(!z))||(!uB))||(!zl))||(!M3))||(!TW)) then D8 else false
 bif ((((((!r)||(!z))||(!uB))||(!zl))||(!M3))||(!TW))||(!Ww) then
  k0 false
 else
 let v:=(xm.ae.getD i.toNat aT).ab
 kJ v (fun x =>
  k0 x) (
  fw i el.Id xm.ae (fun fI =>
  k0 fI) (
  bif (el.Kind==1) then
   bif (el.Kind==1) then
   aJ (!(decide (0<el.Block))||(aZ (aC (el.Ino-1)) xm.aa.ad.length)) <|
   aJ (!(decide (0<el.Block))||(aZ el.Ptr (((xm.aa.ad.getD ((aC (el.Ino-1)).toNat) ay).ax).length))) <|
   k0 ((decide (0<el.Block))&&((((xm.aa.ad.getD ((aC (el.Ino-1)).toNat) ay).ax).getD el.Ptr.toNat 0)==el.Block))
   else
   bif (el.Kind==2) then
   bif (el.Kind==2) then
    aJ (!(decide (0<el.Block))||(aZ (aC (el.Block-1)) xm.aa.ab.length)) <|
    aJ (!((decide (0<el.Block))&&((xm.aa.ab.getD ((aC (el.Block-1)).toNat) aA).bZ))||(aZ (aC (el.Block-1)) xm.aa.ab.length)) <|
    aJ (!((decide (0<el.Block))&&((xm.aa.ab.getD ((aC (el.Block-1)).toNat) aA).bZ))||(aZ el.Slot (((xm.aa.ab.getD ((aC (el.Block-1)).toNat) aA).ah).length))) <|
    k0 (((decide (0<el.Block))&&((xm.aa.ab.getD ((aC (el.Block-1)).toNat) aA).bZ))&&(((((xm.aa.ab.getD ((aC (el.Block-1)).toNat) aA).ah).getD el.Slot.toNat aq).Ino)==el.Ino))
   else
   bif (el.Kind==4) then
    aJ (!(decide (0<el.Block))||(aZ (aC (el.Block-1)) xm.aa.ab.length)) <|
    j7 n el.Name fun uo =>
    let Y9:=bif (decide (0<el.Block))&&((xm.aa.ab.getD ((aC (el.Block-1)).toNat) aA).bZ) then uo else false
    k0 (((decide (0<el.Block))&&((xm.aa.ab.getD ((aC (el.Block-1)).toNat) aA).bZ))&&Y9)
   else
   k0 true
   else
   bif (el.Kind==3) then
   aJ (!(decide (0<el.Block))||(aZ (aC (el.Block-1)) xm.aa.ab.length)) <|
   aJ (!((decide (0<el.Block))&&((xm.aa.ab.getD ((aC (el.Block-1)).toNat) aA).bZ))||(aZ (aC (el.Block-1)) xm.aa.ab.length)) <|
   aJ (!((decide (0<el.Block))&&((xm.aa.ab.getD ((aC (el.Block-1)).toNat) aA).bZ))||(aZ el.Slot (((xm.aa.ab.getD ((aC (el.Block-1)).toNat) aA).ah).length))) <|
   k0 (((decide (0<el.Block))&&((xm.aa.ab.getD ((aC (el.Block-1)).toNat) aA).bZ))&&(((((xm.aa.ab.getD ((aC (el.Block-1)).toNat) aA).ah).getD el.Slot.toNat aq).Ino)==el.Ino))
   else
   bif (el.Kind==4) then
   aJ (!(decide (0<el.Block))||(aZ (aC (el.Block-1)) xm.aa.ab.length)) <|
   j7 n el.Name fun D5 =>
   let YM:=bif (decide (0<el.Block))&&((xm.aa.ab.getD ((aC (el.Block-1)).toNat) aA).bZ) then D5 else false
   k0 (((decide (0<el.Block))&&((xm.aa.ab.getD ((aC (el.Block-1)).toNat) aA).bZ))&&YM)
   else
   k0 true
  else
  bif (el.Kind==6) then
   aJ (!(decide (0<el.Block))||(aZ (aC (el.Ino-1)) xm.aa.ad.length)) <|
   aJ (!(decide (0<el.Block))||(aZ el.Ptr (((xm.aa.ad.getD ((aC (el.Ino-1)).toNat) ay).ax).length))) <|
   k0 ((decide (0<el.Block))&&((((xm.aa.ad.getD ((aC (el.Ino-1)).toNat) ay).ax).getD el.Ptr.toNat 0)==el.Block))
  else
  bif (el.Kind==2) then
   bif (el.Kind==2) then
   aJ (!(decide (0<el.Block))||(aZ (aC (el.Block-1)) xm.aa.ab.length)) <|
   aJ (!((decide (0<el.Block))&&((xm.aa.ab.getD ((aC (el.Block-1)).toNat) aA).bZ))||(aZ (aC (el.Block-1)) xm.aa.ab.length)) <|
   aJ (!((decide (0<el.Block))&&((xm.aa.ab.getD ((aC (el.Block-1)).toNat) aA).bZ))||(aZ el.Slot (((xm.aa.ab.getD ((aC (el.Block-1)).toNat) aA).ah).length))) <|
   k0 (((decide (0<el.Block))&&((xm.aa.ab.getD ((aC (el.Block-1)).toNat) aA).bZ))&&(((((xm.aa.ab.getD ((aC (el.Block-1)).toNat) aA).ah).getD el.Slot.toNat aq).Ino)==el.Ino))
   else
   bif (el.Kind==4) then
   aJ (!(decide (0<el.Block))||(aZ (aC (el.Block-1)) xm.aa.ab.length)) <|
   j7 n el.Name fun KW =>
   let VW:=bif (decide (0<el.Block))&&((xm.aa.ab.getD ((aC (el.Block-1)).toNat) aA).bZ) then KW else false
   k0 (((decide (0<el.Block))&&((xm.aa.ab.getD ((aC (el.Block-1)).toNat) aA).bZ))&&VW)
   else
   k0 true
  else
  bif (el.Kind==3) then
   aJ (!(decide (0<el.Block))||(aZ (aC (el.Block-1)) xm.aa.ab.length)) <|
   aJ (!((decide (0<el.Block))&&((xm.aa.ab.getD ((aC (el.Block-1)).toNat) aA).bZ))||(aZ (aC (el.Block-1)) xm.aa.ab.length)) <|
   aJ (!((decide (0<el.Block))&&((xm.aa.ab.getD ((aC (el.Block-1)).toNat) aA).bZ))||(aZ el.Slot (((xm.aa.ab.getD ((aC (el.Block-1)).toNat) aA).ah).length))) <|
   k0 (((decide (0<el.Block))&&((xm.aa.ab.getD ((aC (el.Block-1)).toNat) aA).bZ))&&(((((xm.aa.ab.getD ((aC (el.Block-1)).toNat) aA).ah).getD el.Slot.toNat aq).Ino)==el.Ino))
  else
  bif (el.Kind==4) then
   aJ (!(decide (0<el.Block))||(aZ (aC (el.Block-1)) xm.aa.ab.length)) <|
   j7 n el.Name fun nh =>
   let Yl:=bif (decide (0<el.Block))&&((xm.aa.ab.getD ((aC (el.Block-1)).toNat) aA).bZ) then nh else false
   k0 (((decide (0<el.Block))&&((xm.aa.ab.getD ((aC (el.Block-1)).toNat) aA).bZ))&&Yl)
  else
  k0 true) n 0) n 0
def lI (n:Nat) (v:Int) (eF:List Bool) (dx:List Bool) (fX:List aR) (jb:List Block) (lF:List Bool) (ix:List bO) (q0:Bool->Option R) (q1:Option R):Nat->Int->Option R
 | 0,_=>none
 | m+1,i =>
  bif (decide (i<(ix.length:Int))) then
  wV n ⟨⟨⟨eF,dx⟩,fX,jb⟩,lF,ix,v⟩ i fun r =>
  bif !r then
   q0 false
  else
  lI n v eF dx fX jb lF ix q0 q1 m (aC (i+1))
  else
  q1
def k9 (n:Nat) (xm:Mem) (k0:Bool->Option R):Option R :=
 p6 n xm.aa fun r =>
 ch xm.Next 1 100000 fun cZ =>
 let z:=bif !(((!r)||(!((xm.an.length:Int)==21)))||(decide (40<(xm.ae.length:Int)))) then cZ else false
 bif (((!r)||(!((xm.an.length:Int)==21)))||(decide (40<(xm.ae.length:Int))))||(!z) then
  k0 false
 else
 lI n xm.Next xm.aa.au.ab xm.aa.au.bB xm.aa.ad xm.aa.ab xm.an xm.ae (fun x =>
  k0 x) (
  k0 true) n 0
def ob (d:aa) (p:Int) (k0:Block->Bool->Option R):Option R :=
 ch p 1 (d.ab.length:Int) fun r =>
 bif !r then
  k0 ⟨false,[],eS⟩ false
 else
 aJ (aZ (aC (p-1)) d.ab.length) <|
 let el:=(d.ab.getD ((aC (p-1)).toNat) aA)
 k0 el true
def jC (n:Nat) (name:ByteArray) (dx:List Bool) (fX:List Bool) (jb:List aR) (lF:List Block) (ix:List Int) (q0:Int->Int->Int->Option R) (q1:Option R):Nat->Int->Option R
 | 0,_=>none
 | m+1,xk =>
  bif (decide (xk<(ix.length:Int))) then
  aJ (aZ xk ix.length) <|
  ob ⟨⟨dx,fX⟩,jb,lF⟩ (ix.getD xk.toNat 0) fun b r =>
  p8 n b name fun cZ =>
  bif (r&&b.bZ)&&(decide (0<=cZ)) then
   aJ (aZ xk ix.length) <|
   aJ (aZ cZ b.ah.length) <|
   q0 (ix.getD xk.toNat 0) cZ ((b.ah.getD cZ.toNat aq).Ino)
  else
  jC n name dx fX jb lF ix q0 q1 m (aC (xk+1))
  else
  q1
def lT (n:Nat) (d:aa) (i:Int) (name:ByteArray) (k0:Int->Int->Int->Option R):Option R :=
 ch i 1 (d.ad.length:Int) fun r =>
 aJ (!(!(!r))||(aZ (aC (i-1)) d.ad.length)) <|
 bif (!r)||(!(((d.ad.getD ((aC (i-1)).toNat) ay).Kind)==2)) then
  k0 0 0 0
 else
 aJ (aZ (aC (i-1)) d.ad.length) <|
 let el:=(d.ad.getD ((aC (i-1)).toNat) ay)
 jC n name d.au.ab d.au.bB d.ad d.ab ((d.ad.getD ((aC (i-1)).toNat) ay).ax) (fun x fI q7 =>
  k0 x fI q7) (
  k0 0 0 0) n 0
def iH (n:Nat) (list:List ByteArray) (v:List Bool) (eF:List Bool) (dx:List aR) (fX:List Block) (q0:Int->Option R) (q1:Int->Option R):Nat->Int->Int->Option R
 | 0,_,_=>none
 | m+1,i,xk =>
  bif (decide (xk<(list.length:Int))) then
  aJ (aZ xk list.length) <|
  lT n ⟨⟨v,eF⟩,dx,fX⟩ i (list.getD xk.toNat eS) fun r cZ dQ =>
  ch dQ 1 (dx.length:Int) fun lu =>
  bif !lu then
   q0 0
  else
  iH n list v eF dx fX q0 q1 m dQ (aC (xk+1))
  else
  q1 i
def gK (n:Nat) (d:aa) (p:ByteArray) (k0:Int->Option R):Option R :=
 jn n p fun r cZ =>
 bif !cZ then
  k0 0
 else
 iH n r d.au.ab d.au.bB d.ad d.ab (fun x =>
  k0 x) (fun i =>
  k0 i) n 1 0
def kS (x:Int) (list:List Int) (q0:Bool->Option R) (q1:Option R):Nat->Int->Option R
 | 0,_=>none
 | m+1,i =>
  bif (decide (i<(list.length:Int))) then
  aJ (aZ i list.length) <|
  bif ((list.getD i.toNat 0)==x) then
   q0 true
  else
  kS x list q0 q1 m (aC (i+1))
  else
  q1
def tf (n:Nat) (list:List Int) (x:Int) (k0:Bool->Option R):Option R :=
 kS x list (fun fI =>
  k0 fI) (
  k0 false) n 0
def iN (n:Nat) (dir:Int) (name:ByteArray) (fX:List aR) (ix:List bO) (q0:Bool->Option R) (q1:Option R):Nat->Int->Option R
 | 0,_=>none
 | m+1,xk =>
  bif (decide (xk<(ix.length:Int))) then
  aJ (aZ xk ix.length) <|
  let el:=(ix.getD xk.toNat aT)
  aJ (!(((el.Kind==4)&&(decide (0<el.bC)))&&(el.Name==name))||(aZ (aC (dir-1)) fX.length)) <|
  tf n ((fX.getD ((aC (dir-1)).toNat) ay).ax) el.Block fun r =>
  let z:=bif ((el.Kind==4)&&(decide (0<el.bC)))&&(el.Name==name) then r else false
  bif (((el.Kind==4)&&(decide (0<el.bC)))&&(el.Name==name))&&z then
   q0 true
  else
  iN n dir name fX ix q0 q1 m (aC (xk+1))
  else
  q1
def qi (n:Nat) (xm:Mem) (dir:Int) (name:ByteArray) (k0:Bool->Option R):Option R :=
 iN n dir name xm.aa.ad xm.ae (fun x =>
  k0 x) (
  k0 false) n 0
def gU (list:List Bool) (q0:Int->Option R) (q1:Option R):Nat->Int->Option R
 | 0,_=>none
 | m+1,i =>
  bif (decide (i<(list.length:Int))) then
  aJ (aZ i list.length) <|
  bif !(list.getD i.toNat false) then
   q0 (aC (i+1))
  else
  gU list q0 q1 m (aC (i+1))
  else
  q1
def pw (n:Nat) (list:List Bool) (k0:Int->Option R):Option R :=
 gU list (fun x =>
  k0 x) (
  k0 0) n 0
def bW (u:Int) (xm:Mem) (k0:Mem->Option R):Option R :=
 bif (decide (0<=u))&&(decide (u<(xm.an.length:Int))) then
  aJ (aZ u xm.an.length) <|
  let row:=(xm.an.set u.toNat true)
  k0 ⟨xm.aa,row,xm.ae,xm.Next⟩
 else
 k0 xm
def uf (n:Nat) (xm:Mem) (k0:Mem->Int->Option R):Option R :=
 dw n xm fun ba =>
 pw n xm.aa.au.bB fun r =>
 bif (r==0) then
  k0 ba 0
 else
 aJ (aZ (aC (r-1)) ba.aa.au.bB.length) <|
 let row:=(ba.aa.au.bB.set ((aC (r-1)).toNat) true)
 bW 0 ⟨⟨⟨ba.aa.au.ab,row⟩,ba.aa.ad,ba.aa.ab⟩,ba.an,ba.ae,ba.Next⟩ fun mo =>
 k0 ⟨⟨⟨ba.aa.au.ab,row⟩,ba.aa.ad,ba.aa.ab⟩,mo.an,ba.ae,mo.Next⟩ r
def jM (xm:Mem) (k0:Bool->Mem->Option R):Option R :=
 k0 ((decide ((xm.ae.length:Int)<=32))&&(decide (xm.Next<=99000))) xm
def dH (i:Int) (k0:Int->Option R):Option R :=
 ch i 1 8 fun r =>
 bif !r then
  k0 (-1)
 else
 k0 (aC (1+(aC ((aC (i-1)).tdiv 2))))
def tj (d:aa) (p:Int) (k0:Block->Bool->Option R) (k1:Block->Nat->Bool->Option R):Option R :=
 ch p 1 (d.ab.length:Int) fun r =>
 bif !r then
  k0 ⟨false,[],eS⟩ false
 else
 aJ (aZ (aC (p-1)) d.ab.length) <|
 let el:=(d.ab.getD ((aC (p-1)).toNat) aA)
 k1 ⟨el.bZ,[],el.Text⟩ ((aC (p-1)).toNat) true
def x5 (d:bO) (k0:Bool->Option R):Option R :=
 k0 (((d.Kind==2)||(d.Kind==3))||(d.Kind==4))
def lM (block:Int) (slot:Int) (ix:List bO) (q0:Int->Option R) (q1:Option R):Nat->Int->Option R
 | 0,_=>none
 | m+1,i =>
  bif (decide (i<(ix.length:Int))) then
  aJ (aZ i ix.length) <|
  let el:=(ix.getD i.toNat aT)
  x5 el fun r =>
  bif (r&&(el.Block==block))&&(el.Slot==slot) then
   q0 el.Id
  else
  lM block slot ix q0 q1 m (aC (i+1))
  else
  q1
def uc (n:Nat) (xm:Mem) (block:Int) (slot:Int) (k0:Int->Option R):Option R :=
 lM block slot xm.ae (fun x =>
  k0 x) (
  k0 0) n 0
def mT (n:Nat) (xm:Mem) (k0:Mem->Int->Option R):Option R :=
 dw n xm fun ba =>
 pw n xm.aa.au.ab fun r =>
 bif (r==0) then
  k0 ba 0
 else
 aJ (aZ (aC (r-1)) ba.aa.au.ab.length) <|
 let row:=(ba.aa.au.ab.set ((aC (r-1)).toNat) true)
 bW 0 ⟨⟨⟨row,ba.aa.au.bB⟩,ba.aa.ad,ba.aa.ab⟩,ba.an,ba.ae,ba.Next⟩ fun mo =>
 k0 ⟨⟨⟨row,ba.aa.au.bB⟩,ba.aa.ad,ba.aa.ab⟩,mo.an,ba.ae,mo.Next⟩ r
def bU (p:Int) (k0:Int->Option R):Option R :=
 ch p 1 16 fun r =>
 bif !r then
  k0 (-1)
 else
 k0 (aC (p+4))
def iA (n:Nat) (xm:Mem) (d:bO) (k0:Mem->Int->Option R):Option R :=
 dw n xm fun ba =>
 ch xm.Next 1 99999 fun r =>
 let z:=bif !(decide (40<=(xm.ae.length:Int))) then r else false
 bif (decide (40<=(xm.ae.length:Int)))||(!z) then
  k0 ba 0
 else
 let row:=(([])++d.ab)
 aJ (bg row) <|
 let b8:=(ba.ae++([⟨xm.Next,d.Kind,d.Ino,d.Ptr,d.Block,d.Slot,d.Name,d.au,d.gy,d.bC,row⟩]))
 aJ (bg b8) <|
 k0 ⟨ba.aa,ba.an,b8,(aC (xm.Next+1))⟩ xm.Next
def mM (n:Nat) (xk:Int) (ok:Bool) (next:Int) (vE:Nat) (dx:Bool) (bb:List Bool) (bi:List Bool) (di:List aR) (db:List Block) (bG:List Bool) (deps:List bO) (jb:List Slot) (q0:Int->Int->Option R):Nat->Int->Int->Int->Option R
 | 0,_,_,_=>none
 | m+1,block,slot,s =>
  bif ((decide (0<=s))&&ok)&&dx then
  aJ (aZ s jb.length) <|
  aJ (!(((jb.getD s.toNat aq).Name)==eS)||(aZ s jb.length)) <|
  aJ (!((((jb.getD s.toNat aq).Name)==eS)&&(((jb.getD s.toNat aq).Ino)==0))||(aZ xk (((di.getD vE ay).ax).length))) <|
  uc n ⟨⟨⟨bb,bi⟩,di,db⟩,bG,deps,next⟩ (((di.getD vE ay).ax).getD xk.toNat 0) s fun r =>
  let z:=bif (((jb.getD s.toNat aq).Name)==eS)&&(((jb.getD s.toNat aq).Ino)==0) then r else 0
  bif ((((jb.getD s.toNat aq).Name)==eS)&&(((jb.getD s.toNat aq).Ino)==0))&&(z==0) then
   aJ (aZ xk (((di.getD vE ay).ax).length)) <|
   mM n xk ok next vE dx bb bi di db bG deps jb q0 m (((di.getD vE ay).ax).getD xk.toNat 0) s (aC (s-1))
  else
  mM n xk ok next vE dx bb bi di db bG deps jb q0 m block slot (aC (s-1))
  else
  q0 block slot
def fG (n:Nat) (xk:Int) (ok:Bool) (next:Int) (vE:Nat) (dx:Bool) (Cf:Nat) (bb:List Bool) (bi:List Bool) (di:List aR) (db:List Block) (bG:List Bool) (deps:List bO) (q0:Int->Int->Option R):Nat->Int->Int->Int->Option R
 | 0,_,_,_=>none
 | m+1,block,slot,s =>
  bif ((decide (0<=s))&&ok)&&dx then
  aJ (aZ s (((db.getD Cf aA).ah).length)) <|
  aJ (!(((((db.getD Cf aA).ah).getD s.toNat aq).Name)==eS)||(aZ s (((db.getD Cf aA).ah).length))) <|
  aJ (!((((((db.getD Cf aA).ah).getD s.toNat aq).Name)==eS)&&(((((db.getD Cf aA).ah).getD s.toNat aq).Ino)==0))||(aZ xk (((di.getD vE ay).ax).length))) <|
  uc n ⟨⟨⟨bb,bi⟩,di,db⟩,bG,deps,next⟩ (((di.getD vE ay).ax).getD xk.toNat 0) s fun r =>
  let z:=bif (((((db.getD Cf aA).ah).getD s.toNat aq).Name)==eS)&&(((((db.getD Cf aA).ah).getD s.toNat aq).Ino)==0) then r else 0
  bif ((((((db.getD Cf aA).ah).getD s.toNat aq).Name)==eS)&&(((((db.getD Cf aA).ah).getD s.toNat aq).Ino)==0))&&(z==0) then
   aJ (aZ xk (((di.getD vE ay).ax).length)) <|
   fG n xk ok next vE dx Cf bb bi di db bG deps q0 m (((di.getD vE ay).ax).getD xk.toNat 0) s (aC (s-1))
  else
  fG n xk ok next vE dx Cf bb bi di db bG deps q0 m block slot (aC (s-1))
  else
  q0 block slot
def hY (n:Nat) (next:Int) (vE:Nat) (bb:List Bool) (bi:List Bool) (di:List aR) (db:List Block) (bG:List Bool) (deps:List bO) (q0:Int->Int->Option R):Nat->Int->Int->Int->Option R
 | 0,_,_,_=>none
 | m+1,block,slot,xk =>
  bif (decide (0<=xk)) then
  aJ (aZ xk (((di.getD vE ay).ax).length)) <|
  tj ⟨⟨bb,bi⟩,di,db⟩ (((di.getD vE ay).ax).getD xk.toNat 0)
   (fun b r =>
   mM n xk r next vE b.bZ bb bi di db bG deps b.ah (fun Sy Vj =>
    hY n next vE bb bi di db bG deps q0 m Sy Vj (aC (xk-1))) m block slot (aC ((b.ah.length:Int)-1)))
   (fun xp e cZ =>
   fG n xk cZ next vE xp.bZ e bb bi di db bG deps (fun Fo Jp =>
    hY n next vE bb bi di db bG deps q0 m Fo Jp (aC (xk-1))) m block slot (aC ((((db.getD e aA).ah).length:Int)-1)))
  else
  q0 block slot
def jP (vE:Nat) (di:List aR) (q0:Int->Option R):Nat->Int->Option R
 | 0,_=>none
 | m+1,xk =>
  aJ (!(decide (xk<(((di.getD vE ay).ax).length:Int)))||(aZ xk (((di.getD vE ay).ax).length))) <|
  bif (decide (xk<(((di.getD vE ay).ax).length:Int)))&&(!((((di.getD vE ay).ax).getD xk.toNat 0)==0)) then
  jP vE di q0 m (aC (xk+1))
  else
  q0 xk
def pZ (n:Nat) (dir:Int) (name:ByteArray) (ino:Int) (xm:Mem) (k0:Int->Mem->Option R):Option R :=
 aJ (aZ (aC (dir-1)) xm.aa.ad.length) <|
 let el:=(xm.aa.ad.getD ((aC (dir-1)).toNat) ay)
 hY n xm.Next ((aC (dir-1)).toNat) xm.aa.au.ab xm.aa.au.bB xm.aa.ad xm.aa.ab xm.an xm.ae (fun block slot =>
  bif (block==0) then
  jP ((aC (dir-1)).toNat) xm.aa.ad (fun xk =>
   bif (xk==(((xm.aa.ad.getD ((aC (dir-1)).toNat) ay).ax).length:Int)) then
   k0 0 xm
   else
   mT n xm fun ba r =>
   bif (r==0) then
   k0 0 xm
   else
   sa fun b =>
   aJ (aZ (aC (r-1)) ba.aa.ab.length) <|
   let row:=(ba.aa.ab.set ((aC (r-1)).toNat) b)
   aJ (aZ (aC (dir-1)) ba.aa.ad.length) <|
   aJ (aZ xk (((ba.aa.ad.getD ((aC (dir-1)).toNat) ay).ax).length)) <|
   let b8:=(ba.aa.ad.set ((aC (dir-1)).toNat) ⟨(ba.aa.ad.getD ((aC (dir-1)).toNat) ay).Kind,(ba.aa.ad.getD ((aC (dir-1)).toNat) ay).Links,(((ba.aa.ad.getD ((aC (dir-1)).toNat) ay).ax).set xk.toNat r)⟩)
   bU r fun cZ =>
   bW cZ ⟨⟨ba.aa.au,b8,row⟩,ba.an,ba.ae,ba.Next⟩ fun mo =>
   dH dir fun dQ =>
   bW dQ ⟨⟨ba.aa.au,b8,row⟩,mo.an,ba.ae,mo.Next⟩ fun j6 =>
   iA n ⟨⟨ba.aa.au,b8,row⟩,j6.an,ba.ae,j6.Next⟩ ⟨0,1,dir,xk,r,0,eS,false,false,0,[]⟩ fun dO lu =>
   aJ (aZ (aC (r-1)) dO.aa.ab.length) <|
   aJ (aZ slot (((dO.aa.ab.getD ((aC (r-1)).toNat) aA).ah).length)) <|
   let fg:=(dO.aa.ab.set ((aC (r-1)).toNat) ⟨(dO.aa.ab.getD ((aC (r-1)).toNat) aA).bZ,(((dO.aa.ab.getD ((aC (r-1)).toNat) aA).ah).set slot.toNat ⟨name,ino⟩),(dO.aa.ab.getD ((aC (r-1)).toNat) aA).Text⟩)
   bU r fun nj =>
   bW nj ⟨⟨dO.aa.au,dO.aa.ad,fg⟩,dO.an,dO.ae,dO.Next⟩ fun rj =>
   bW 0 ⟨⟨dO.aa.au,dO.aa.ad,fg⟩,rj.an,dO.ae,rj.Next⟩ fun Fw =>
   iA n ⟨⟨dO.aa.au,dO.aa.ad,fg⟩,Fw.an,dO.ae,Fw.Next⟩ ⟨0,2,ino,0,r,slot,eS,false,false,0,[]⟩ fun rS xt =>
   k0 xt rS) n 0
  else
  aJ (aZ (aC (block-1)) xm.aa.ab.length) <|
  aJ (aZ slot (((xm.aa.ab.getD ((aC (block-1)).toNat) aA).ah).length)) <|
  let zc:=(xm.aa.ab.set ((aC (block-1)).toNat) ⟨(xm.aa.ab.getD ((aC (block-1)).toNat) aA).bZ,(((xm.aa.ab.getD ((aC (block-1)).toNat) aA).ah).set slot.toNat ⟨name,ino⟩),(xm.aa.ab.getD ((aC (block-1)).toNat) aA).Text⟩)
  bU block fun D8 =>
  bW D8 ⟨⟨xm.aa.au,xm.aa.ad,zc⟩,xm.an,xm.ae,xm.Next⟩ fun PX =>
  bW 0 ⟨⟨xm.aa.au,xm.aa.ad,zc⟩,PX.an,xm.ae,PX.Next⟩ fun PW =>
  iA n ⟨⟨xm.aa.au,xm.aa.ad,zc⟩,PW.an,xm.ae,PW.Next⟩ ⟨0,2,ino,0,block,slot,eS,false,false,0,[]⟩ fun uA uo =>
  k0 uo uA) n 0 0 (aC ((((xm.aa.ad.getD ((aC (dir-1)).toNat) ay).ax).length:Int)-1))
def n9 (n:Nat) (xm:Mem) (p:ByteArray) (kind:Int) (k0:Mem->Int->Option R):Option R :=
 dw n xm fun ba =>
 ky n p fun r cZ dQ =>
 k9 n xm fun lu =>
 bif ((!lu)||(!dQ))||((!(kind==1))&&(!(kind==2))) then
  k0 ba 6
 else
 gK n xm.aa p fun nj =>
 bif (!(nj==0)) then
  k0 ba 2
 else
 gK n xm.aa r fun xt =>
 bif (xt==0) then
  k0 ba 1
 else
 aJ (aZ (aC (xt-1)) xm.aa.ad.length) <|
 bif (!(((xm.aa.ad.getD ((aC (xt-1)).toNat) ay).Kind)==2)) then
  k0 ba 3
 else
 qi n xm xt cZ fun D8 =>
 bif D8 then
  k0 ba 5
 else
 uf n xm fun dO uo =>
 jM dO fun D5 mo =>
 let z:=bif !(uo==0) then D5 else false
 let uB:=bif !(uo==0) then mo.Next else dO.Next
 bif (uo==0)||(!z) then
  k0 ba 4
 else
 dW kind fun i =>
 aJ (aZ (aC (uo-1)) dO.aa.ad.length) <|
 let row:=(dO.aa.ad.set ((aC (uo-1)).toNat) i)
 dH uo fun KW =>
 bW KW ⟨⟨dO.aa.au,row,dO.aa.ab⟩,dO.an,dO.ae,uB⟩ fun j6 =>
 pZ n xt cZ uo ⟨⟨dO.aa.au,row,dO.aa.ab⟩,j6.an,dO.ae,j6.Next⟩ fun nh rj =>
 bif (nh==0) then
  k0 ba 4
 else
 k0 rj 0
def pd (n:Nat) (xm:Mem) (p:ByteArray) (xk:Int) (s:ByteArray) (k0:Mem->Int->Option R):Option R :=
 dw n xm fun ba =>
 jn n p fun r cZ =>
 k9 n xm fun dQ =>
 ch xk 0 1 fun lu =>
 let z:=bif !((!dQ)||(!cZ)) then lu else false
 bif (((!dQ)||(!cZ))||(!z))||(decide (16<(s.size:Int))) then
  k0 ba 6
 else
 gK n xm.aa p fun nj =>
 bif (nj==0) then
  k0 ba 1
 else
 aJ (aZ (aC (nj-1)) xm.aa.ad.length) <|
 bif (!(((xm.aa.ad.getD ((aC (nj-1)).toNat) ay).Kind)==1)) then
  k0 ba 3
 else
 dw n xm fun dO =>
 aJ (aZ (aC (nj-1)) xm.aa.ad.length) <|
 aJ (aZ xk (((xm.aa.ad.getD ((aC (nj-1)).toNat) ay).ax).length)) <|
 bif ((((xm.aa.ad.getD ((aC (nj-1)).toNat) ay).ax).getD xk.toNat 0)==0) then
  mT n xm fun rS xt =>
  jM dO fun D8 mo =>
  let uB:=bif !(xt==0) then D8 else false
  let zl:=bif !(xt==0) then mo.Next else dO.Next
  bif (xt==0)||(!uB) then
  k0 ba 4
  else
  aJ (aZ (aC (nj-1)) rS.aa.ad.length) <|
  aJ (aZ xk (((rS.aa.ad.getD ((aC (nj-1)).toNat) ay).ax).length)) <|
  let row:=(rS.aa.ad.set ((aC (nj-1)).toNat) ⟨(rS.aa.ad.getD ((aC (nj-1)).toNat) ay).Kind,(rS.aa.ad.getD ((aC (nj-1)).toNat) ay).Links,(((rS.aa.ad.getD ((aC (nj-1)).toNat) ay).ax).set xk.toNat xt)⟩)
  dH nj fun uo =>
  bW uo ⟨⟨rS.aa.au,row,rS.aa.ab⟩,rS.an,rS.ae,rS.Next⟩ fun j6 =>
  iA n ⟨⟨rS.aa.au,row,rS.aa.ab⟩,j6.an,rS.ae,j6.Next⟩ ⟨0,1,nj,xk,xt,0,eS,false,false,0,[]⟩ fun uA D5 =>
  aJ (aZ (aC (xt-1)) uA.aa.ab.length) <|
  let b8:=(uA.aa.ab.set ((aC (xt-1)).toNat) ⟨false,[],s⟩)
  bU xt fun KW =>
  bW KW ⟨⟨uA.aa.au,uA.aa.ad,b8⟩,uA.an,uA.ae,uA.Next⟩ fun rj =>
  k0 ⟨⟨uA.aa.au,uA.aa.ad,b8⟩,rj.an,uA.ae,rj.Next⟩ 0
 else
 aJ (aZ (aC ((((xm.aa.ad.getD ((aC (nj-1)).toNat) ay).ax).getD xk.toNat 0)-1)) dO.aa.ab.length) <|
 let fg:=(dO.aa.ab.set ((aC ((((xm.aa.ad.getD ((aC (nj-1)).toNat) ay).ax).getD xk.toNat 0)-1)).toNat) ⟨false,[],s⟩)
 bU (((xm.aa.ad.getD ((aC (nj-1)).toNat) ay).ax).getD xk.toNat 0) fun nh =>
 bW nh ⟨⟨dO.aa.au,dO.aa.ad,fg⟩,dO.an,dO.ae,dO.Next⟩ fun Fw =>
 k0 ⟨⟨dO.aa.au,dO.aa.ad,fg⟩,Fw.an,dO.ae,Fw.Next⟩ 0
def eM (dx:Bool) (qZ:List Slot) (q0:(List ByteArray)->Option R):Nat->Int->(List ByteArray)->Option R
 | 0,_,_=>none
 | m+1,s,out =>
  bif (decide (s<(qZ.length:Int)))&&dx then
  aJ (aZ s qZ.length) <|
  bif (!(((qZ.getD s.toNat aq).Name)==eS)) then
   aJ (aZ s qZ.length) <|
   let row:=(out++([(qZ.getD s.toNat aq).Name]))
   aJ (bg row) <|
   eM dx qZ q0 m (aC (s+1)) row
  else
  eM dx qZ q0 m (aC (s+1)) out
  else
  q0 out
def jI (dx:List Bool) (fX:List Bool) (jb:List aR) (lF:List Block) (ix:List Int) (q0:(List ByteArray)->Option R):Nat->Int->(List ByteArray)->Option R
 | 0,_,_=>none
 | m+1,xk,out =>
  bif (decide (xk<(ix.length:Int))) then
  aJ (aZ xk ix.length) <|
  ob ⟨⟨dx,fX⟩,jb,lF⟩ (ix.getD xk.toNat 0) fun b r =>
  eM b.bZ b.ah (fun Cg =>
   jI dx fX jb lF ix q0 m (aC (xk+1)) Cg) m 0 out
  else
  q0 out
def tL (n:Nat) (d:aa) (i:Int) (k0:(List ByteArray)->Option R):Option R :=
 ch i 1 (d.ad.length:Int) fun r =>
 aJ (!(!(!r))||(aZ (aC (i-1)) d.ad.length)) <|
 bif (!r)||(!(((d.ad.getD ((aC (i-1)).toNat) ay).Kind)==2)) then
  k0 ([])
 else
 aJ (aZ (aC (i-1)) d.ad.length) <|
 let el:=(d.ad.getD ((aC (i-1)).toNat) ay)
 jI d.au.ab d.au.bB d.ad d.ab ((d.ad.getD ((aC (i-1)).toNat) ay).ax) (fun out =>
  k0 out) n 0 ([])
def jT (n:Nat) (i:Int) (fX:List aR) (ix:List bO) (q0:Bool->Option R) (q1:Option R):Nat->Int->Option R
 | 0,_=>none
 | m+1,xk =>
  bif (decide (xk<(ix.length:Int))) then
  aJ (aZ xk ix.length) <|
  let el:=(ix.getD xk.toNat aT)
  aJ (!((el.Kind==4)&&(decide (0<el.bC)))||(aZ (aC (i-1)) fX.length)) <|
  tf n ((fX.getD ((aC (i-1)).toNat) ay).ax) el.Block fun r =>
  let z:=bif (el.Kind==4)&&(decide (0<el.bC)) then r else false
  bif ((el.Kind==4)&&(decide (0<el.bC)))&&z then
   q0 true
  else
  jT n i fX ix q0 q1 m (aC (xk+1))
  else
  q1
def yc (n:Nat) (xm:Mem) (i:Int) (k0:Bool->Option R):Option R :=
 jT n i xm.aa.ad xm.ae (fun x =>
  k0 x) (
  k0 false) n 0
def jO (id:Int) (deps:List bO) (q0:Int->Option R) (q1:Option R):Nat->Int->Option R
 | 0,_=>none
 | m+1,xk =>
  bif (decide (xk<(deps.length:Int))) then
  aJ (aZ xk deps.length) <|
  bif (((deps.getD xk.toNat aT).Id)==id) then
   aJ (aZ xk deps.length) <|
   q0 ((deps.getD xk.toNat aT).Kind)
  else
  jO id deps q0 q1 m (aC (xk+1))
  else
  q1
def tI (n:Nat) (id:Int) (xm:Mem) (k0:Int->Mem->Option R):Option R :=
 jO id xm.ae (fun x =>
  k0 x xm) (
  k0 0 xm) n 0
def iv (id:Int) (gZ:List bO) (q0:(List bO)->Option R):Nat->Int->(List bO)->Option R
 | 0,_,_=>none
 | m+1,i,list =>
  bif (decide (i<(gZ.length:Int))) then
  aJ (aZ i gZ.length) <|
  bif (!(((gZ.getD i.toNat aT).Id)==id)) then
   aJ (aZ i gZ.length) <|
   let el:=(gZ.getD i.toNat aT)
   let row:=(list++([el]))
   aJ (bg row) <|
   iv id gZ q0 m (aC (i+1)) row
  else
  iv id gZ q0 m (aC (i+1)) list
  else
  q0 list
def kN (n:Nat) (xm:Mem) (id:Int) (k0:Mem->Option R):Option R :=
 dw n xm fun ba =>
 iv id ba.ae (fun list =>
  k0 ⟨ba.aa,ba.an,list,ba.Next⟩) n 0 ([])
def fD (id:Int) (after:Int) (bb:List Bool) (bi:List Bool) (di:List aR) (db:List Block) (q0:Int->(List Bool)->(List bO)->Option R):Nat->Int->Int->(List Bool)->(List bO)->Option R
 | 0,_,_,_,_=>none
 | m+1,xk,next,bG,deps =>
  bif (decide (xk<(deps.length:Int))) then
  aJ (aZ xk deps.length) <|
  aJ (!(((deps.getD xk.toNat aT).Kind)==4)||(aZ xk deps.length)) <|
  bif (((deps.getD xk.toNat aT).Kind)==4)&&(((deps.getD xk.toNat aT).bC)==id) then
   aJ (aZ xk deps.length) <|
   let row:=(deps.set xk.toNat ⟨(deps.getD xk.toNat aT).Id,(deps.getD xk.toNat aT).Kind,(deps.getD xk.toNat aT).Ino,(deps.getD xk.toNat aT).Ptr,(deps.getD xk.toNat aT).Block,(deps.getD xk.toNat aT).Slot,(deps.getD xk.toNat aT).Name,(deps.getD xk.toNat aT).au,(deps.getD xk.toNat aT).gy,after,(deps.getD xk.toNat aT).ab⟩)
   bif (after==0) then
   aJ (aZ xk row.length) <|
   bU ((row.getD xk.toNat aT).Block) fun r =>
   bW r ⟨⟨⟨bb,bi⟩,di,db⟩,bG,row,next⟩ fun mo =>
   fD id after bb bi di db q0 m (aC (xk+1)) mo.Next mo.an row
   else
   fD id after bb bi di db q0 m (aC (xk+1)) next bG row
  else
  fD id after bb bi di db q0 m (aC (xk+1)) next bG deps
  else
  q0 next bG deps
def od (n:Nat) (id:Int) (after:Int) (xm:Mem) (k0:Mem->Option R):Option R :=
 kN n xm id fun ba =>
 fD id after ba.aa.au.ab ba.aa.au.bB ba.aa.ad ba.aa.ab (fun next bG deps =>
  k0 ⟨ba.aa,bG,deps,next⟩) n 0 ba.Next ba.an ba.ae
def eL (i:Int) (deps:List bO) (q0:(List bO)->Option R):Nat->Int->(List bO)->Option R
 | 0,_,_=>none
 | m+1,xk,list =>
  bif (decide (xk<(deps.length:Int))) then
  aJ (aZ xk deps.length) <|
  aJ (!(!((!(((deps.getD xk.toNat aT).Kind)==1))&&(!(((deps.getD xk.toNat aT).Kind)==6))))||(aZ xk deps.length)) <|
  bif ((!(((deps.getD xk.toNat aT).Kind)==1))&&(!(((deps.getD xk.toNat aT).Kind)==6)))||(!(((deps.getD xk.toNat aT).Ino)==i)) then
   aJ (aZ xk deps.length) <|
   let el:=(deps.getD xk.toNat aT)
   let row:=(list++([el]))
   aJ (bg row) <|
   eL i deps q0 m (aC (xk+1)) row
  else
  eL i deps q0 m (aC (xk+1)) list
  else
  q0 list
def dS (vE:Nat) (di:List aR) (q0:(List Int)->Option R):Nat->Int->(List Int)->Option R
 | 0,_,_=>none
 | m+1,xk,blocks =>
  bif (decide (xk<(((di.getD vE ay).ax).length:Int))) then
  aJ (aZ xk (((di.getD vE ay).ax).length)) <|
  bif (decide (0<(((di.getD vE ay).ax).getD xk.toNat 0))) then
   aJ (aZ xk (((di.getD vE ay).ax).length)) <|
   let row:=(blocks++([(((di.getD vE ay).ax).getD xk.toNat 0)]))
   aJ (bg row) <|
   dS vE di q0 m (aC (xk+1)) row
  else
  dS vE di q0 m (aC (xk+1)) blocks
  else
  q0 blocks
def lK (n:Nat) (i:Int) (xm:Mem) (k0:Mem->Option R):Option R :=
 ch xm.Next 1 99999 fun r =>
 let z:=bif !(decide (40<=(xm.ae.length:Int))) then r else false
 bif (decide (40<=(xm.ae.length:Int)))||(!z) then
  k0 xm
 else
 aJ (aZ (aC (i-1)) xm.aa.ad.length) <|
 let el:=(xm.aa.ad.getD ((aC (i-1)).toNat) ay)
 nX el fun mX =>
 dH i fun cZ =>
 bW cZ xm fun mo =>
 bif (decide (0<mX.Links)) then
  aJ (aZ (aC (i-1)) xm.aa.ad.length) <|
  let row:=(xm.aa.ad.set ((aC (i-1)).toNat) ⟨mX.Kind,(aC (mX.Links-1)),mX.ax⟩)
  bif (decide (0<(aC (mX.Links-1))))||(mX.Kind==0) then
  k0 ⟨⟨xm.aa.au,row,xm.aa.ab⟩,mo.an,xm.ae,mo.Next⟩
  else
  eL i xm.ae (fun list =>
  dS ((aC (i-1)).toNat) row (fun blocks =>
   dW 0 fun M1 =>
   aJ (aZ (aC (i-1)) row.length) <|
   let b8:=(row.set ((aC (i-1)).toNat) M1)
   iA n ⟨⟨xm.aa.au,b8,xm.aa.ab⟩,mo.an,list,mo.Next⟩ ⟨0,5,i,0,0,0,eS,false,false,0,blocks⟩ fun ba dQ =>
   k0 ba) n 0 ([])) n 0 ([])
 else
 aJ (aZ (aC (i-1)) xm.aa.ad.length) <|
 let fg:=(xm.aa.ad.set ((aC (i-1)).toNat) mX)
 bif (decide (0<mX.Links))||(mX.Kind==0) then
  k0 ⟨⟨xm.aa.au,fg,xm.aa.ab⟩,mo.an,xm.ae,mo.Next⟩
 else
 eL i xm.ae (fun Vs =>
  dS ((aC (i-1)).toNat) fg (fun blocks_1 =>
  dW 0 fun i_3 =>
  aJ (aZ (aC (i-1)) fg.length) <|
  let zc:=(fg.set ((aC (i-1)).toNat) i_3)
  iA n ⟨⟨xm.aa.au,zc,xm.aa.ab⟩,mo.an,Vs,mo.Next⟩ ⟨0,5,i,0,0,0,eS,false,false,0,blocks_1⟩ fun dO lu =>
  k0 dO) n 0 ([])) n 0 ([])
def nR (n:Nat) (block:Int) (slot:Int) (xby:Int) (xm:Mem) (k0:Mem->Option R):Option R :=
 aJ (aZ (aC (block-1)) xm.aa.ab.length) <|
 aJ (aZ slot (((xm.aa.ab.getD ((aC (block-1)).toNat) aA).ah).length)) <|
 uc n xm block slot fun r =>
 tI n r xm fun cZ mo =>
 aJ (aZ (aC (block-1)) xm.aa.ab.length) <|
 aJ (aZ slot (((xm.aa.ab.getD ((aC (block-1)).toNat) aA).ah).length)) <|
 let row:=(xm.aa.ab.set ((aC (block-1)).toNat) ⟨(xm.aa.ab.getD ((aC (block-1)).toNat) aA).bZ,(((xm.aa.ab.getD ((aC (block-1)).toNat) aA).ah).set slot.toNat ⟨eS,0⟩),(xm.aa.ab.getD ((aC (block-1)).toNat) aA).Text⟩)
 bU block fun dQ =>
 bW dQ ⟨⟨xm.aa.au,xm.aa.ad,row⟩,xm.an,xm.ae,mo.Next⟩ fun j6 =>
 bif (cZ==2)||(cZ==3) then
  od n r xby ⟨⟨xm.aa.au,xm.aa.ad,row⟩,j6.an,xm.ae,j6.Next⟩ fun rj =>
  lK n ((((xm.aa.ab.getD ((aC (block-1)).toNat) aA).ah).getD slot.toNat aq).Ino) rj fun Fw =>
  k0 Fw
 else
 iA n ⟨⟨xm.aa.au,xm.aa.ad,row⟩,j6.an,xm.ae,j6.Next⟩ ⟨0,4,(((xm.aa.ab.getD ((aC (block-1)).toNat) aA).ah).getD slot.toNat aq).Ino,0,block,slot,(((xm.aa.ab.getD ((aC (block-1)).toNat) aA).ah).getD slot.toNat aq).Name,false,false,xby,[]⟩ fun ba lu =>
 k0 ba
def nH (n:Nat) (xm:Mem) (p:ByteArray) (k0:Mem->Int->Option R):Option R :=
 dw n xm fun ba =>
 ky n p fun r cZ dQ =>
 k9 n xm fun lu =>
 bif (!lu)||(!dQ) then
  k0 ba 6
 else
 gK n xm.aa r fun nj =>
 lT n xm.aa nj cZ fun xt D8 uo =>
 bif (uo==0) then
  k0 ba 1
 else
 tL n xm.aa uo fun D5 =>
 aJ (!(!(decide (0<(D5.length:Int))))||(aZ (aC (uo-1)) xm.aa.ad.length)) <|
 yc n xm uo fun KW =>
 let z:=bif (!(decide (0<(D5.length:Int))))&&(((xm.aa.ad.getD ((aC (uo-1)).toNat) ay).Kind)==2) then KW else false
 jM ba fun nh mo =>
 let uB:=bif !((decide (0<(D5.length:Int)))||((((xm.aa.ad.getD ((aC (uo-1)).toNat) ay).Kind)==2)&&z)) then nh else false
 let zl:=bif !((decide (0<(D5.length:Int)))||((((xm.aa.ad.getD ((aC (uo-1)).toNat) ay).Kind)==2)&&z)) then mo.Next else ba.Next
 bif ((decide (0<(D5.length:Int)))||((((xm.aa.ad.getD ((aC (uo-1)).toNat) ay).Kind)==2)&&z))||(!uB) then
  k0 ⟨ba.aa,ba.an,ba.ae,zl⟩ 5
 else
 dw n xm fun dO =>
 nR n xt D8 0 dO fun j6 =>
 k0 j6 0
def jB (n:Nat) (list:List ByteArray) (eF:List Bool) (dx:List Bool) (fX:List aR) (jb:List Block) (lF:List Bool) (ix:List bO) (q0:Bool->Option R) (q1:Option R):Nat->Int->Int->Int->Option R
 | 0,_,_,_=>none
 | m+1,i,xk,v =>
  bif (decide (xk<(list.length:Int))) then
  aJ (aZ xk list.length) <|
  lT n ⟨⟨eF,dx⟩,fX,jb⟩ i (list.getD xk.toNat eS) fun r cZ dQ =>
  uc n ⟨⟨⟨eF,dx⟩,fX,jb⟩,lF,ix,v⟩ r cZ fun lu =>
  tI n lu ⟨⟨⟨eF,dx⟩,fX,jb⟩,lF,ix,v⟩ fun nj mo =>
  bif (decide (0<dQ))&&((nj==2)||(nj==3)) then
   q0 true
  else
  jB n list eF dx fX jb lF ix q0 q1 m dQ (aC (xk+1)) mo.Next
  else
  q1
def tR (n:Nat) (xm:Mem) (dir:ByteArray) (k0:Bool->Option R):Option R :=
 jn n dir fun r cZ =>
 jB n r xm.aa.au.ab xm.aa.au.bB xm.aa.ad xm.aa.ab xm.an xm.ae (fun x =>
  k0 x) (
  k0 false) n 1 0 xm.Next
def qR (n:Nat) (xm:Mem) (p:ByteArray) (q:ByteArray) (k0:Mem->Int->Option R):Option R :=
 dw n xm fun ba =>
 ky n p fun r cZ dQ =>
 ky n q fun lu nj xt =>
 k9 n xm fun D8 =>
 bif ((!D8)||(!dQ))||(!xt) then
  k0 ba 6
 else
 gK n xm.aa r fun uo =>
 lT n xm.aa uo cZ fun D5 KW nh =>
 gK n xm.aa lu fun C0 =>
 bif (nh==0)||(C0==0) then
  k0 ba 1
 else
 aJ (aZ (aC (nh-1)) xm.aa.ad.length) <|
 aJ (!(!(!(((xm.aa.ad.getD ((aC (nh-1)).toNat) ay).Kind)==1)))||(aZ (aC (C0-1)) xm.aa.ad.length)) <|
 bif (!(((xm.aa.ad.getD ((aC (nh-1)).toNat) ay).Kind)==1))||(!(((xm.aa.ad.getD ((aC (C0-1)).toNat) ay).Kind)==2)) then
  k0 ba 3
 else
 gK n xm.aa q fun MY =>
 bif (!(MY==0)) then
  k0 ba 2
 else
 qi n xm C0 nj fun Ju =>
 tR n xm lu fun ME =>
 let z:=bif !Ju then ME else false
 bif Ju||z then
  k0 ba 5
 else
 jM ba fun SD mo =>
 bif !SD then
  k0 ⟨ba.aa,ba.an,ba.ae,mo.Next⟩ 4
 else
 aJ (aZ (aC (nh-1)) xm.aa.ad.length) <|
 bif (decide (200<=(xm.aa.ad.getD ((aC (nh-1)).toNat) ay).Links)) then
  k0 ⟨ba.aa,ba.an,ba.ae,mo.Next⟩ 5
 else
 dw n xm fun dO =>
 aJ (aZ (aC (nh-1)) xm.aa.ad.length) <|
 aJ (aZ (aC (nh-1)) dO.aa.ad.length) <|
 let row:=(dO.aa.ad.set ((aC (nh-1)).toNat) ⟨(dO.aa.ad.getD ((aC (nh-1)).toNat) ay).Kind,(aC (((xm.aa.ad.getD ((aC (nh-1)).toNat) ay).Links)+1)),(dO.aa.ad.getD ((aC (nh-1)).toNat) ay).ax⟩)
 dH nh fun SY =>
 bW SY ⟨⟨dO.aa.au,row,dO.aa.ab⟩,dO.an,dO.ae,dO.Next⟩ fun j6 =>
 pZ n C0 nj nh ⟨⟨dO.aa.au,row,dO.aa.ab⟩,j6.an,dO.ae,j6.Next⟩ fun Jt rj =>
 bif (Jt==0) then
  k0 ⟨ba.aa,ba.an,ba.ae,mo.Next⟩ 4
 else
 nR n D5 KW Jt rj fun Fw =>
 k0 Fw 0
def p9 (n:Nat) (xm:Mem) (e:Event) (k0:Mem->Int->Bool->Option R):Option R :=
 bif (e.Kind==1) then
  n9 n xm e.Path 1 fun ba r =>
  k0 ba r true
 else
 bif (e.Kind==2) then
  n9 n xm e.Path 2 fun dO cZ =>
  k0 dO cZ true
 else
 bif (e.Kind==3) then
  pd n xm e.Path e.At e.Text fun rS dQ =>
  k0 rS dQ true
 else
 bif (e.Kind==4) then
  nH n xm e.Path fun uA lu =>
  k0 uA lu true
 else
 bif (e.Kind==5) then
  qR n xm e.Path e.To fun adb nj =>
  k0 adb nj true
 else
 k0 xm 0 false
def gR (q0:(List Node)->Option R):Nat->Int->(List Node)->Option R
 | 0,_,_=>none
 | m+1,xk,out =>
  aJ (!(decide (0<xk))||(aZ (aC (xk-1)) out.length)) <|
  aJ (!(decide (0<xk))||(aZ xk out.length)) <|
  bif (decide (0<xk))&&(QA ((out.getD xk.toNat eA).Path) ((out.getD ((aC (xk-1)).toNat) eA).Path)) then
  aJ (aZ xk out.length) <|
  let el:=(out.getD xk.toNat eA)
  aJ (aZ (aC (xk-1)) out.length) <|
  let CW:=(out.getD ((aC (xk-1)).toNat) eA)
  aJ (aZ xk out.length) <|
  let row:=(out.set xk.toNat CW)
  aJ (aZ (aC (xk-1)) row.length) <|
  let b8:=(row.set ((aC (xk-1)).toNat) el)
  gR q0 m (aC (xk-1)) b8
  else
  q0 out
def fS (q0:(List Node)->Option R):Nat->Int->(List Node)->Option R
 | 0,_,_=>none
 | m+1,i,out =>
  bif (decide (i<(out.length:Int))) then
  gR (fun Cg =>
   fS q0 m (aC (i+1)) Cg) m i out
  else
  q0 out
def jx (n:Nat) (list:List Node) (k0:(List Node)->Option R):Option R :=
 let row:=(([])++list)
 aJ (bg row) <|
 fS (fun out =>
  k0 out) n 1 row
def qE (p:ByteArray) (top:ByteArray) (k0:Bool->Option R):Option R :=
 aJ (!((!(p==top))&&(decide ((top.size:Int)<(p.size:Int))))||(xf (aC ((top.size:Int)+1)) p.size)) <|
 aJ (!((!(p==top))&&(decide ((top.size:Int)<(p.size:Int))))||(mi top (S [47]))) <|
 k0 ((p==top)||((decide ((top.size:Int)<(p.size:Int)))&&((p.extract 0 ((aC ((top.size:Int)+1)).toNat))==(top++(S [47])))))
def da (eF:ByteArray) (fX:Int) (jb:ByteArray) (q0:(List Node)->Option R):Nat->Int->(List Node)->Option R
 | 0,_,_=>none
 | m+1,i,out =>
  bif (decide (i<(out.length:Int))) then
  aJ (aZ i out.length) <|
  aJ (!(!(!(((out.getD i.toNat eA).Path)==eF)))||(aZ i out.length)) <|
  bif (!(((out.getD i.toNat eA).Path)==eF))||((out.getD i.toNat eA).bZ) then
   da eF fX jb q0 m (aC (i+1)) out
  else
  bif (fX==0) then
   aJ (aZ i out.length) <|
   let row:=(out.set i.toNat ⟨(out.getD i.toNat eA).Path,(out.getD i.toNat eA).bZ,jb,(out.getD i.toNat eA).NK⟩)
   da eF fX jb q0 m (aC (i+1)) row
  else
  aJ (aZ i out.length) <|
  let b8:=(out.set i.toNat ⟨(out.getD i.toNat eA).Path,(out.getD i.toNat eA).bZ,(out.getD i.toNat eA).Head,jb⟩)
  da eF fX jb q0 m (aC (i+1)) b8
  else
  q0 out
def de (eF:ByteArray) (out:List Node) (q0:(List Node)->Option R):Nat->Int->(List Node)->Option R
 | 0,_,_=>none
 | m+1,i,rest =>
  bif (decide (i<(out.length:Int))) then
  aJ (aZ i out.length) <|
  qE ((out.getD i.toNat eA).Path) eF fun r =>
  bif !r then
   aJ (aZ i out.length) <|
   let el:=(out.getD i.toNat eA)
   let row:=(rest++([el]))
   aJ (bg row) <|
   de eF out q0 m (aC (i+1)) row
  else
  de eF out q0 m (aC (i+1)) rest
  else
  q0 rest
def dc (eF:ByteArray) (dx:ByteArray) (q0:(List Node)->Option R):Nat->Int->(List Node)->Option R
 | 0,_,_=>none
 | m+1,i,out =>
  bif (decide (i<(out.length:Int))) then
  aJ (aZ i out.length) <|
  aJ (!(((out.getD i.toNat eA).Path)==eF)||(aZ i out.length)) <|
  bif (((out.getD i.toNat eA).Path)==eF)&&(!((out.getD i.toNat eA).bZ)) then
   aJ (aZ i out.length) <|
   let row:=(out.set i.toNat ⟨dx,(out.getD i.toNat eA).bZ,(out.getD i.toNat eA).Head,(out.getD i.toNat eA).NK⟩)
   dc eF dx q0 m (aC (i+1)) row
  else
  dc eF dx q0 m (aC (i+1)) out
  else
  q0 out
def lq (n:Nat) (list:List Node) (e:Event) (k0:(List Node)->Option R):Option R :=
 let row:=(([])++list)
 aJ (bg row) <|
 bif (e.Kind==1) then
  bif (e.Kind==1) then
  let b8:=(row++([⟨e.Path,(e.Kind==2),eS,eS⟩]))
  aJ (bg b8) <|
  jx n b8 fun r =>
  k0 r
  else
  bif (e.Kind==3) then
  da e.Path e.At e.Text (fun out =>
   k0 out) n 0 row
  else
  bif (e.Kind==4) then
  de e.Path row (fun rest =>
   k0 rest) n 0 ([])
  else
  bif (e.Kind==5) then
  dc e.Path e.To (fun Cg =>
   jx n Cg fun cZ =>
   k0 cZ) n 0 row
  else
  k0 row
 else
 bif (e.Kind==2) then
  let fg:=(row++([⟨e.Path,(e.Kind==2),eS,eS⟩]))
  aJ (bg fg) <|
  jx n fg fun dQ =>
  k0 dQ
 else
 bif (e.Kind==3) then
  da e.Path e.At e.Text (fun Yc =>
  k0 Yc) n 0 row
 else
 bif (e.Kind==4) then
  de e.Path row (fun VN =>
  k0 VN) n 0 ([])
 else
 bif (e.Kind==5) then
  dc e.Path e.To (fun YL =>
  jx n YL fun lu =>
  k0 lu) n 0 row
 else
 k0 row
def fa (i:Int) (dJ:List bO) (q0:(List Int)->Option R):Nat->Int->(List Int)->Option R
 | 0,_,_=>none
 | m+1,xk,jV =>
  bif (decide (xk<(dJ.length:Int))) then
  aJ (aZ xk dJ.length) <|
  let el:=(dJ.getD xk.toNat aT)
  bif (((el.Kind==1)&&(el.Ino==i))&&(decide (0<=el.Ptr)))&&(decide (el.Ptr<(jV.length:Int))) then
   aJ (aZ el.Ptr jV.length) <|
   let row:=(jV.set el.Ptr.toNat 0)
   fa i dJ q0 m (aC (xk+1)) row
  else
  fa i dJ q0 m (aC (xk+1)) jV
  else
  q0 jV
def nB (n:Nat) (xm:Mem) (i:Int) (k0:aR->Option R):Option R :=
 ch i 1 (xm.aa.ad.length:Int) fun r =>
 bif !r then
  dW 0 fun mX =>
  k0 mX
 else
 aJ (aZ (aC (i-1)) xm.aa.ad.length) <|
 let el:=(xm.aa.ad.getD ((aC (i-1)).toNat) ay)
 nX el fun M1 =>
 fa i xm.ae (fun v =>
  k0 ⟨M1.Kind,M1.Links,v⟩) n 0 M1.ax
def c8 (p:Int) (dJ:List bO) (q0:(List Slot)->Option R):Nat->Int->(List Slot)->Option R
 | 0,_,_=>none
 | m+1,xk,jV =>
  bif (decide (xk<(dJ.length:Int))) then
  aJ (aZ xk dJ.length) <|
  let el:=(dJ.getD xk.toNat aT)
  bif ((!(el.Block==p))||(decide (el.Slot<0)))||(decide ((jV.length:Int)<=el.Slot)) then
   c8 p dJ q0 m (aC (xk+1)) jV
  else
  bif (el.Kind==2) then
   aJ (aZ el.Slot jV.length) <|
   let row:=(jV.set el.Slot.toNat ⟨eS,0⟩)
   bif (el.Kind==4)&&(decide (0<el.bC)) then
   aJ (aZ el.Slot row.length) <|
   let b8:=(row.set el.Slot.toNat ⟨el.Name,el.Ino⟩)
   c8 p dJ q0 m (aC (xk+1)) b8
   else
   c8 p dJ q0 m (aC (xk+1)) row
  else
  bif (el.Kind==4)&&(decide (0<el.bC)) then
   aJ (aZ el.Slot jV.length) <|
   let fg:=(jV.set el.Slot.toNat ⟨el.Name,el.Ino⟩)
   c8 p dJ q0 m (aC (xk+1)) fg
  else
  c8 p dJ q0 m (aC (xk+1)) jV
  else
  q0 jV
def nI (n:Nat) (xm:Mem) (p:Int) (k0:Block->Option R):Option R :=
 ch p 1 (xm.aa.ab.length:Int) fun r =>
 bif !r then
  k0 ⟨false,[],eS⟩
 else
 aJ (aZ (aC (p-1)) xm.aa.ab.length) <|
 let el:=(xm.aa.ab.getD ((aC (p-1)).toNat) aA)
 mb el fun b =>
 c8 p xm.ae (fun v =>
  k0 ⟨b.bZ,v,b.Text⟩) n 0 b.ah
def qB (n:Nat) (d:aa) (u:Int) (k0:ByteArray->Bool->Option R):Option R :=
 p6 n d fun r =>
 ch u 0 20 fun cZ =>
 let z:=bif !(!r) then cZ else false
 bif (!r)||(!z) then
  k0 eS false
 else
 pT n d u fun dQ =>
 k0 dQ true
def gO (n:Nat) (v:Int) (eF:List Bool) (dx:List Bool) (fX:List aR) (jb:List Block) (lF:List Bool) (ix:List bO) (q0:(List aR)->Option R):Nat->Int->(List aR)->Option R
 | 0,_,_=>none
 | m+1,i,qZ =>
  bif (decide (i<=8)) then
  nB n ⟨⟨⟨eF,dx⟩,fX,jb⟩,lF,ix,v⟩ i fun mX =>
  aJ (aZ (aC (i-1)) qZ.length) <|
  let row:=(qZ.set ((aC (i-1)).toNat) mX)
  gO n v eF dx fX jb lF ix q0 m (aC (i+1)) row
  else
  q0 qZ
def gP (n:Nat) (v:Int) (eF:List Bool) (dx:List Bool) (fX:List aR) (jb:List Block) (lF:List Bool) (ix:List bO) (q0:(List Block)->Option R):Nat->Int->(List Block)->Option R
 | 0,_,_=>none
 | m+1,p,dJ =>
  bif (decide (p<=16)) then
  nI n ⟨⟨⟨eF,dx⟩,fX,jb⟩,lF,ix,v⟩ p fun b =>
  aJ (aZ (aC (p-1)) dJ.length) <|
  let row:=(dJ.set ((aC (p-1)).toNat) b)
  gP n v eF dx fX jb lF ix q0 m (aC (p+1)) row
  else
  q0 dJ
def o7 (n:Nat) (xm:Mem) (u:Int) (k0:ByteArray->Bool->Option R):Option R :=
 k9 n xm fun r =>
 ch u 0 20 fun cZ =>
 let z:=bif !(!r) then cZ else false
 bif (!r)||(!z) then
  k0 eS false
 else
 iF n xm.aa fun d =>
 gO n xm.Next xm.aa.au.ab xm.aa.au.bB xm.aa.ad xm.aa.ab xm.an xm.ae (fun v =>
  gP n xm.Next xm.aa.au.ab xm.aa.au.bB xm.aa.ad xm.aa.ab xm.an xm.ae (fun eF =>
  qB n ⟨d.au,v,eF⟩ u fun dQ lu =>
  k0 dQ lu) n 1 d.ab) n 1 d.ad
def iI (v:List ByteArray) (q0:Bool->Option R) (q1:Option R):Nat->Int->Option R
 | 0,_=>none
 | m+1,i =>
  bif (decide (i<(v.length:Int))) then
  aJ (aZ i v.length) <|
  bif (decide (60<((v.getD i.toNat eS).size:Int))) then
   q0 false
  else
  iI v q0 q1 m (aC (i+1))
  else
  q1
def oh (n:Nat) (d:Device) (k0:Bool->Option R):Option R :=
 iI d.cp (fun x =>
  k0 x) (
  k0 ((d.cp.length:Int)==21)) n 0
def EI (n:Nat) (f:Fs) (k0:Bool->Option R):Option R :=
 k9 n f.Mem fun r =>
 oh n f.Device fun cZ =>
 let z:=bif r then cZ else false
 k0 (r&&z)
def nT (n:Nat) (f:Fs) (k0:Fs->Option R):Option R :=
 dw n f.Mem fun xm =>
 let row:=(([])++f.Device.cp)
 aJ (bg row) <|
 k0 ⟨xm,⟨row⟩⟩
def pz (n:Nat) (d:Device) (u:Int) (s:ByteArray) (k0:Device->Bool->Option R):Option R :=
 let row:=(([])++d.cp)
 aJ (bg row) <|
 oh n d fun r =>
 ch u 0 20 fun cZ =>
 let z:=bif !(!r) then cZ else false
 bif ((!r)||(!z))||(decide (60<(s.size:Int))) then
  k0 ⟨row⟩ false
 else
 aJ (aZ u row.length) <|
 let b8:=(row.set u.toNat s)
 k0 ⟨b8⟩ true
def fj (u:Int) (q0:(List bO)->Option R):Nat->Int->(List bO)->Option R
 | 0,_,_=>none
 | m+1,xk,deps =>
  bif (decide (xk<(deps.length:Int))) then
  aJ (aZ xk deps.length) <|
  let el:=(deps.getD xk.toNat aT)
  bif (u==0)&&((el.Kind==1)||(el.Kind==2)) then
   aJ (aZ xk deps.length) <|
   let row:=(deps.set xk.toNat ⟨(deps.getD xk.toNat aT).Id,(deps.getD xk.toNat aT).Kind,(deps.getD xk.toNat aT).Ino,(deps.getD xk.toNat aT).Ptr,(deps.getD xk.toNat aT).Block,(deps.getD xk.toNat aT).Slot,(deps.getD xk.toNat aT).Name,true,(deps.getD xk.toNat aT).gy,(deps.getD xk.toNat aT).bC,(deps.getD xk.toNat aT).ab⟩)
   dH el.Ino fun r =>
   let z:=bif (el.Kind==2) then r else 0
   bU el.Block fun cZ =>
   let uB:=bif (!((el.Kind==2)&&(z==u)))&&(el.Kind==1) then cZ else 0
   bif ((el.Kind==2)&&(z==u))||((el.Kind==1)&&(uB==u)) then
   aJ (aZ xk row.length) <|
   let b8:=(row.set xk.toNat ⟨(row.getD xk.toNat aT).Id,(row.getD xk.toNat aT).Kind,(row.getD xk.toNat aT).Ino,(row.getD xk.toNat aT).Ptr,(row.getD xk.toNat aT).Block,(row.getD xk.toNat aT).Slot,(row.getD xk.toNat aT).Name,(row.getD xk.toNat aT).au,true,(row.getD xk.toNat aT).bC,(row.getD xk.toNat aT).ab⟩)
   fj u q0 m (aC (xk+1)) b8
   else
   fj u q0 m (aC (xk+1)) row
  else
  dH el.Ino fun dQ =>
  let zl:=bif (el.Kind==2) then dQ else 0
  bU el.Block fun lu =>
  let M3:=bif (!((el.Kind==2)&&(zl==u)))&&(el.Kind==1) then lu else 0
  bif ((el.Kind==2)&&(zl==u))||((el.Kind==1)&&(M3==u)) then
   aJ (aZ xk deps.length) <|
   let fg:=(deps.set xk.toNat ⟨(deps.getD xk.toNat aT).Id,(deps.getD xk.toNat aT).Kind,(deps.getD xk.toNat aT).Ino,(deps.getD xk.toNat aT).Ptr,(deps.getD xk.toNat aT).Block,(deps.getD xk.toNat aT).Slot,(deps.getD xk.toNat aT).Name,(deps.getD xk.toNat aT).au,true,(deps.getD xk.toNat aT).bC,(deps.getD xk.toNat aT).ab⟩)
   fj u q0 m (aC (xk+1)) fg
  else
  fj u q0 m (aC (xk+1)) deps
  else
  q0 deps
def xF (n:Nat) (u:Int) (xm:Mem) (k0:Mem->Option R):Option R :=
 fj u (fun deps =>
  k0 ⟨xm.aa,xm.an,deps,xm.Next⟩) n 0 xm.ae
def gE (dJ:List Int) (q0:(List Bool)->Option R):Nat->Int->(List Bool)->Option R
 | 0,_,_=>none
 | m+1,xk,bb =>
  bif (decide (xk<(dJ.length:Int))) then
  aJ (aZ xk dJ.length) <|
  aJ (aZ (aC ((dJ.getD xk.toNat 0)-1)) bb.length) <|
  let row:=(bb.set ((aC ((dJ.getD xk.toNat 0)-1)).toNat) false)
  gE dJ q0 m (aC (xk+1)) row
  else
  q0 bb
def eR (n:Nat) (all:List bO) (dJ:List Int) (q0:Int->(List Bool)->(List Bool)->(List aR)->(List Block)->(List Bool)->(List bO)->Option R):Nat->Int->Int->(List Bool)->(List Bool)->(List aR)->(List Block)->(List Bool)->(List bO)->Option R
 | 0,_,_,_,_,_,_,_,_=>none
 | m+1,xk,next,bb,bi,di,db,bG,deps =>
  bif (decide (xk<(all.length:Int))) then
  aJ (aZ xk all.length) <|
  aJ (!(((all.getD xk.toNat aT).Kind)==4)||(aZ xk all.length)) <|
  tf n dJ ((all.getD xk.toNat aT).Block) fun r =>
  let z:=bif (((all.getD xk.toNat aT).Kind)==4) then r else false
  bif (((all.getD xk.toNat aT).Kind)==4)&&z then
   aJ (aZ xk all.length) <|
   kN n ⟨⟨⟨bb,bi⟩,di,db⟩,bG,deps,next⟩ ((all.getD xk.toNat aT).Id) fun xm =>
   aJ (aZ xk all.length) <|
   lK n ((all.getD xk.toNat aT).Ino) xm fun mo =>
   eR n all dJ q0 m (aC (xk+1)) mo.Next mo.aa.au.ab mo.aa.au.bB mo.aa.ad mo.aa.ab mo.an mo.ae
  else
  eR n all dJ q0 m (aC (xk+1)) next bb bi di db bG deps
  else
  q0 next bb bi di db bG deps
def qy (n:Nat) (d:bO) (xm:Mem) (k0:Mem->Option R):Option R :=
 kN n xm d.Id fun ba =>
 gE d.ab (fun bb =>
  aJ (aZ (aC (d.Ino-1)) ba.aa.au.bB.length) <|
  let row:=(ba.aa.au.bB.set ((aC (d.Ino-1)).toNat) false)
  bW 0 ⟨⟨⟨bb,row⟩,ba.aa.ad,ba.aa.ab⟩,ba.an,ba.ae,ba.Next⟩ fun mo =>
  eR n ba.ae d.ab (fun next Qm bi di db bG deps =>
  k0 ⟨⟨⟨Qm,bi⟩,di,db⟩,bG,deps,next⟩) n 0 mo.Next bb row ba.aa.ad ba.aa.ab mo.an ba.ae) n 0 ba.aa.au.ab
def gf (block:Int) (list:List bO) (q0:Bool->Option R) (q1:Option R):Nat->Int->Option R
 | 0,_=>none
 | m+1,xk =>
  bif (decide (xk<(list.length:Int))) then
  aJ (aZ xk list.length) <|
  aJ (!(!(((list.getD xk.toNat aT).Kind)==1))||(aZ xk list.length)) <|
  aJ (!((((list.getD xk.toNat aT).Kind)==1)||(((list.getD xk.toNat aT).Kind)==6))||(aZ xk list.length)) <|
  bif ((((list.getD xk.toNat aT).Kind)==1)||(((list.getD xk.toNat aT).Kind)==6))&&(((list.getD xk.toNat aT).Block)==block) then
   q0 true
  else
  gf block list q0 q1 m (aC (xk+1))
  else
  q1
def nF (n:Nat) (list:List bO) (block:Int) (k0:Bool->Option R):Option R :=
 gf block list (fun x =>
  k0 x) (
  k0 false) n 0
def fE (n:Nat) (before:List bO) (bb:List Bool) (bi:List Bool) (di:List aR) (db:List Block) (deps:List bO) (q0:Int->(List bO)->(List Bool)->Option R):Nat->Int->Int->(List bO)->(List Bool)->Option R
 | 0,_,_,_,_=>none
 | m+1,xk,next,list,bG =>
  bif (decide (xk<(before.length:Int))) then
  aJ (aZ xk before.length) <|
  let el:=(before.getD xk.toNat aT)
  bif ((el.Kind==1)&&el.au)&&el.gy then
   dH el.Ino fun r =>
   bW r ⟨⟨⟨bb,bi⟩,di,db⟩,bG,deps,next⟩ fun mo =>
   nF n before el.Block fun cZ =>
   let z:=bif false then cZ else false
   let row:=(list++([⟨el.Id,6,el.Ino,el.Ptr,el.Block,el.Slot,el.Name,el.au,el.gy,el.bC,(before.getD xk.toNat aT).ab⟩]))
   aJ (bg row) <|
   fE n before bb bi di db deps q0 m (aC (xk+1)) mo.Next row mo.an
  else
  nF n before el.Block fun dQ =>
  let uB:=bif ((el.Kind==2)&&el.au)&&el.gy then dQ else false
  bif (((el.Kind==2)&&el.au)&&el.gy)&&(!uB) then
   bU el.Block fun lu =>
   bW lu ⟨⟨⟨bb,bi⟩,di,db⟩,bG,deps,next⟩ fun j6 =>
   let b8:=(list++([⟨el.Id,3,el.Ino,el.Ptr,el.Block,el.Slot,el.Name,el.au,el.gy,el.bC,(before.getD xk.toNat aT).ab⟩]))
   aJ (bg b8) <|
   fE n before bb bi di db deps q0 m (aC (xk+1)) j6.Next b8 j6.an
  else
  let fg:=(list++([el]))
  aJ (bg fg) <|
  fE n before bb bi di db deps q0 m (aC (xk+1)) next fg bG
  else
  q0 next list bG
def mg (n:Nat) (xm:Mem) (k0:Mem->Option R):Option R :=
 let row:=(([])++xm.ae)
 aJ (bg row) <|
 fE n row xm.aa.au.ab xm.aa.au.bB xm.aa.ad xm.aa.ab xm.ae (fun next list bG =>
  k0 ⟨xm.aa,bG,list,next⟩) n 0 xm.Next ([]) xm.an
def iM (n:Nat) (u:Int) (before:List bO) (q0:Int->(List Bool)->(List Bool)->(List aR)->(List Block)->(List Bool)->(List bO)->Option R):Nat->Int->Int->(List Bool)->(List Bool)->(List aR)->(List Block)->(List Bool)->(List bO)->Option R
 | 0,_,_,_,_,_,_,_,_=>none
 | m+1,xk,eF,Cx,qZ,dJ,oR,jV,gZ =>
  bif (decide (xk<(before.length:Int))) then
  aJ (aZ xk before.length) <|
  let el:=(before.getD xk.toNat aT)
  dH el.Ino fun r =>
  let z:=bif (el.Kind==6) then r else 0
  bif (el.Kind==6)&&(z==u) then
   kN n ⟨⟨⟨Cx,qZ⟩,dJ,oR⟩,jV,gZ,eF⟩ el.Id fun xm =>
   iM n u before q0 m (aC (xk+1)) xm.Next xm.aa.au.ab xm.aa.au.bB xm.aa.ad xm.aa.ab xm.an xm.ae
  else
  dH el.Ino fun cZ =>
  let uB:=bif (el.Kind==5) then cZ else 0
  bif (el.Kind==5)&&(uB==u) then
   qy n el ⟨⟨⟨Cx,qZ⟩,dJ,oR⟩,jV,gZ,eF⟩ fun mo =>
   iM n u before q0 m (aC (xk+1)) mo.Next mo.aa.au.ab mo.aa.au.bB mo.aa.ad mo.aa.ab mo.an mo.ae
  else
  bU el.Block fun dQ =>
  let zl:=bif (el.Kind==3) then dQ else 0
  bif (el.Kind==3)&&(zl==u) then
   od n el.Id 0 ⟨⟨⟨Cx,qZ⟩,dJ,oR⟩,jV,gZ,eF⟩ fun j6 =>
   iM n u before q0 m (aC (xk+1)) j6.Next j6.aa.au.ab j6.aa.au.bB j6.aa.ad j6.aa.ab j6.an j6.ae
  else
  bU el.Block fun lu =>
  let M3:=bif (el.Kind==4)&&(el.bC==0) then lu else 0
  bif ((el.Kind==4)&&(el.bC==0))&&(M3==u) then
   kN n ⟨⟨⟨Cx,qZ⟩,dJ,oR⟩,jV,gZ,eF⟩ el.Id fun ba =>
   lK n el.Ino ba fun rj =>
   iM n u before q0 m (aC (xk+1)) rj.Next rj.aa.au.ab rj.aa.au.bB rj.aa.ad rj.aa.ab rj.an rj.ae
  else
  iM n u before q0 m (aC (xk+1)) eF Cx qZ dJ oR jV gZ
  else
  q0 eF Cx qZ dJ oR jV gZ
def Ei (n:Nat) (xm:Mem) (u:Int) (k0:Mem->Option R):Option R :=
 dw n xm fun ba =>
 k9 n xm fun r =>
 ch u 0 20 fun cZ =>
 let z:=bif !(!r) then cZ else false
 bif (!r)||(!z) then
  k0 ba
 else
 aJ (aZ u ba.an.length) <|
 let row:=(ba.an.set u.toNat false)
 xF n u ⟨ba.aa,row,ba.ae,ba.Next⟩ fun mo =>
 iM n u xm.ae (fun v eF dx fX jb lF ix =>
  mg n ⟨⟨⟨eF,dx⟩,fX,jb⟩,lF,ix,v⟩ fun j6 =>
  k0 j6) n 0 mo.Next mo.aa.au.ab mo.aa.au.bB mo.aa.ad mo.aa.ab mo.an mo.ae
def g8 (n:Nat) (f:Fs) (u:Int) (k0:Fs->Bool->Option R):Option R :=
 o7 n f.Mem u fun r cZ =>
 EI n f fun dQ =>
 bif (!dQ)||(!cZ) then
  nT n f fun Ni =>
  k0 Ni false
 else
 pz n f.Device u r fun d lu =>
 bif !lu then
  nT n f fun Y5 =>
  k0 Y5 false
 else
 Ei n f.Mem u fun xm =>
 k0 ⟨xm,d⟩ true
def AM (gZ:List Bool) (q0:Int->Option R):Nat->Int->Option R
 | 0,_=>none
 | m+1,u =>
  aJ (!(decide (u<(gZ.length:Int)))||(aZ u gZ.length)) <|
  bif (decide (u<(gZ.length:Int)))&&(!(gZ.getD u.toNat false)) then
  AM gZ q0 m (aC (u+1))
  else
  q0 u
def jE (gZ:List Bool) (q0:Int->Option R):Nat->Int->Option R
 | 0,_=>none
 | m+1,u =>
  aJ (!(decide (u<(gZ.length:Int)))||(aZ u gZ.length)) <|
  bif (decide (u<(gZ.length:Int)))&&(!(gZ.getD u.toNat false)) then
  jE gZ q0 m (aC (u+1))
  else
  q0 u
def mc (n:Nat) (q0:Int->(List Bool)->(List Bool)->(List aR)->(List Block)->(List Bool)->(List bO)->(List ByteArray)->Option R) (q1:Int->(List Bool)->(List Bool)->(List aR)->(List Block)->(List Bool)->(List bO)->(List ByteArray)->Option R):Nat->Int->Int->(List Bool)->(List Bool)->(List aR)->(List Block)->(List Bool)->(List bO)->(List ByteArray)->Option R
 | 0,_,_,_,_,_,_,_,_,_=>none
 | m+1,i,eF,qZ,dJ,oR,jV,gZ,zu,rV =>
  bif (decide (i<400)) then
  jE gZ (fun u =>
   bif (u==(gZ.length:Int)) then
   q0 eF qZ dJ oR jV gZ zu rV
   else
   g8 n ⟨⟨⟨⟨qZ,dJ⟩,oR,jV⟩,gZ,zu,eF⟩,⟨rV⟩⟩ u fun f r =>
   bif !r then
   q0 eF qZ dJ oR jV gZ zu rV
   else
   mc n q0 q1 m (aC (i+1)) f.Mem.Next f.Mem.aa.au.ab f.Mem.aa.au.bB f.Mem.aa.ad f.Mem.aa.ab f.Mem.an f.Mem.ae f.Device.cp) m 0
  else
  q1 eF qZ dJ oR jV gZ zu rV
def oW (n:Nat) (f:Fs) (k0:Fs->Option R):Option R :=
 nT n f fun Ni =>
 mc n (fun v eF dx fX jb lF ix uV =>
  k0 ⟨⟨⟨⟨eF,dx⟩,fX,jb⟩,lF,ix,v⟩,⟨uV⟩⟩) (fun Cx qZ dJ oR jV gZ zu rV =>
  k0 ⟨⟨⟨⟨qZ,dJ⟩,oR,jV⟩,gZ,zu,Cx⟩,⟨rV⟩⟩) n 0 Ni.Mem.Next Ni.Mem.aa.au.ab Ni.Mem.aa.au.bB Ni.Mem.aa.ad Ni.Mem.aa.ab Ni.Mem.an Ni.Mem.ae Ni.Device.cp
def iL (i:Int) (q0:Int->Option R):Nat->Int->Int->Option R
 | 0,_,_=>none
 | m+1,xn,xk =>
  bif (decide (xk<(i.tmod 8))) then
  iL i q0 m (aC (xn.tdiv 2)) (aC (xk+1))
  else
  q0 xn
def dA (s:ByteArray) (q0:(List Bool)->(List Bool)->Option R):Nat->Int->(List Bool)->(List Bool)->Option R
 | 0,_,_,_=>none
 | m+1,i,dx,fX =>
  bif (decide (i<24)) then
  aJ (aZ (aC (i.tdiv 8)) s.size) <|
  iL i (fun xn =>
   bif (decide (i<16)) then
   let row:=(dx++([((xn.tmod 2)==1)]))
   aJ (bg row) <|
   dA s q0 m (aC (i+1)) row fX
   else
   let b8:=(fX++([((xn.tmod 2)==1)]))
   aJ (bg b8) <|
   dA s q0 m (aC (i+1)) dx b8) m (aC ((bt s ((aC (i.tdiv 8)).toNat):Int))) 0
  else
  q0 dx fX
def qC (n:Nat) (s:ByteArray) (k0:au->Bool->Option R):Option R :=
 bif (!((s.size:Int)==3)) then
  k0 ⟨[],[]⟩ false
 else
 dA s (fun v eF =>
  k0 ⟨v,eF⟩ true) n 0 ([]) ([])
def pr (n:Nat) (s:ByteArray) (k0:aR->Bool->Option R):Option R :=
 bif (!((s.size:Int)==4)) then
  k0 ⟨0,0,[]⟩ false
 else
 aJ (aZ 0 s.size) <|
 aJ (aZ 1 s.size) <|
 aJ (aZ 2 s.size) <|
 aJ (aZ 3 s.size) <|
 let lit:=([(aC ((bt s 2:Int))),(aC ((bt s 3:Int)))]:List Int)
 nY n ⟨(aC ((bt s 0:Int))),(aC ((bt s 1:Int))),lit⟩ fun r =>
 bif !r then
  k0 ⟨0,0,[]⟩ false
 else
 k0 ⟨(aC ((bt s 0:Int))),(aC ((bt s 1:Int))),lit⟩ true
def jA (n:Nat) (text:ByteArray) (xat:Int) (q0:Int->Int->Bool->Option R) (q1:Option R):Nat->Int->Int->Int->Option R
 | 0,_,_,_=>none
 | m+1,xn,scale,i =>
  bif (decide (i<(text.size:Int)))&&(decide (i<(aC (xat+5)))) then
  aJ (aZ i text.size) <|
  aJ (aZ i text.size) <|
  bif (decide ((bt text i.toNat:Int)<128)) then
   tg n (aC (xn+(aC (((aC ((bt text i.toNat:Int))).tmod 128)*scale)))) fun r =>
   let z:=bif !(decide (1000000000<(aC (xn+(aC (((aC ((bt text i.toNat:Int))).tmod 128)*scale)))))) then r else eS
   aJ (!(!(decide (1000000000<(aC (xn+(aC (((aC ((bt text i.toNat:Int))).tmod 128)*scale)))))))||(jX xat (aC (i+1)) text.size)) <|
   bif (decide (1000000000<(aC (xn+(aC (((aC ((bt text i.toNat:Int))).tmod 128)*scale))))))||(!(z==(text.extract xat.toNat ((aC (i+1)).toNat)))) then
   q0 0 0 false
   else
   q0 (aC (xn+(aC (((aC ((bt text i.toNat:Int))).tmod 128)*scale)))) (aC (i+1)) true
  else
  jA n text xat q0 q1 m (aC (xn+(aC (((aC ((bt text i.toNat:Int))).tmod 128)*scale)))) (aC (scale*128)) (aC (i+1))
  else
  q1
def tY (n:Nat) (text:ByteArray) (xat:Int) (k0:Int->Int->Bool->Option R):Option R :=
 ch xat 0 (text.size:Int) fun r =>
 bif !r then
  k0 0 0 false
 else
 jA n text xat (fun x fI q7 =>
  k0 x fI q7) (
  k0 0 0 false) n 0 1 xat
def o4 (n:Nat) (text:ByteArray) (xat:Int) (k0:ByteArray->Int->Bool->Option R):Option R :=
 tY n text xat fun r cZ dQ =>
 bif ((!dQ)||(decide (20000<r)))||(decide ((aC ((text.size:Int)-cZ))<r)) then
  k0 eS 0 false
 else
 aJ (jX cZ (aC (cZ+r)) text.size) <|
 k0 (text.extract cZ.toNat ((aC (cZ+r)).toNat)) (aC (cZ+r)) true
def gS (n:Nat) (s:ByteArray) (q0:Bool->Bool->ByteArray->(List Slot)->Option R) (q1:(List Slot)->Option R):Nat->Int->Int->(List Slot)->Option R
 | 0,_,_,_=>none
 | m+1,xat,i,lF =>
  bif (decide (i<4))&&(decide (xat<(s.size:Int))) then
  o4 n s (aC (xat+1)) fun r cZ dQ =>
  bif !dQ then
   q0 false false eS ([])
  else
  aJ (aZ xat s.size) <|
  let row:=(lF++([⟨r,(aC ((bt s xat.toNat:Int)))⟩]))
  aJ (bg row) <|
  gS n s q0 q1 m cZ (aC (i+1)) row
  else
  q1 lF
def o8 (n:Nat) (s:ByteArray) (k0:Block->Bool->Option R):Option R :=
 bif (s==eS) then
  k0 ⟨false,[],eS⟩ false
 else
 aJ (xf 1 s.size) <|
 aJ (aZ 0 s.size) <|
 bif ((bt s 0:Int)==100) then
  gS n s (fun x v eF dx =>
  k0 ⟨v,dx,eF⟩ x) (fun fX =>
  g7 n ⟨true,fX,eS⟩ fun r cZ =>
  bif (!cZ)||(!(r==s)) then
   k0 ⟨false,[],eS⟩ false
  else
  k0 ⟨true,fX,eS⟩ true) n 1 0 ([])
 else
 g7 n ⟨false,[],(s.extract 1 s.size)⟩ fun dQ lu =>
 bif (!lu)||(!(dQ==s)) then
  k0 ⟨false,[],eS⟩ false
 else
 k0 ⟨false,[],(s.extract 1 s.size)⟩ true
def jm (q0:(List Bool)->Option R):Nat->Int->(List Bool)->Option R
 | 0,_,_=>none
 | m+1,i,qZ =>
  bif (decide (i<(qZ.length:Int))) then
  aJ (aZ i qZ.length) <|
  let row:=(qZ.set i.toNat true)
  jm q0 m (aC (i+1)) row
  else
  q0 qZ
def ib (q0:(List Bool)->Option R):Nat->Int->(List Bool)->Option R
 | 0,_,_=>none
 | m+1,i,dJ =>
  bif (decide (i<(dJ.length:Int))) then
  aJ (aZ i dJ.length) <|
  let row:=(dJ.set i.toNat true)
  ib q0 m (aC (i+1)) row
  else
  q0 dJ
def eK (n:Nat) (v:List ByteArray) (q0:(List aR)->Option R):Nat->Int->(List aR)->Option R
 | 0,_,_=>none
 | m+1,i,uV =>
  bif (decide (i<8)) then
  aJ (aZ (aC (1+(aC (i.tdiv 2)))) v.length) <|
  dW 0 fun mX =>
  bif (((v.getD ((aC (1+(aC (i.tdiv 2)))).toNat) eS).size:Int)==8) then
   aJ (jX (aC (4*(i.tmod 2))) (aC ((aC (4*(i.tmod 2)))+4)) (v.getD ((aC (1+(aC (i.tdiv 2)))).toNat) eS).size) <|
   pr n ((v.getD ((aC (1+(aC (i.tdiv 2)))).toNat) eS).extract ((aC (4*(i.tmod 2))).toNat) ((aC ((aC (4*(i.tmod 2)))+4)).toNat)) fun M1 r =>
   bif r then
   let row:=(uV++([M1]))
   aJ (bg row) <|
   eK n v q0 m (aC (i+1)) row
   else
   let b8:=(uV++([mX]))
   aJ (bg b8) <|
   eK n v q0 m (aC (i+1)) b8
  else
  let fg:=(uV++([mX]))
  aJ (bg fg) <|
  eK n v q0 m (aC (i+1)) fg
  else
  q0 uV
def gA (n:Nat) (v:List ByteArray) (q0:(List Block)->Option R):Nat->Int->(List Block)->Option R
 | 0,_,_=>none
 | m+1,i,Cx =>
  bif (decide (i<16)) then
  aJ (aZ (aC (5+i)) v.length) <|
  o8 n (v.getD ((aC (5+i)).toNat) eS) fun b r =>
  let row:=(Cx++([b]))
  aJ (bg row) <|
  gA n v q0 m (aC (i+1)) row
  else
  q0 Cx
def og (n:Nat) (d:Device) (k0:aa->Bool->Option R):Option R :=
 oh n d fun r =>
 bif !r then
  k0 ⟨⟨[],[]⟩,[],[]⟩ false
 else
 aJ (aZ 0 d.cp.length) <|
 qC n (d.cp.getD 0 eS) fun b cZ =>
 bif !cZ then
  lS fun xp =>
  jm (fun v =>
  ib (fun eF =>
   eK n d.cp (fun dx =>
   gA n d.cp (fun fX =>
    k0 ⟨⟨v,eF⟩,dx,fX⟩ true) n 0 ([])) n 0 ([])) n 0 xp.bB) n 0 xp.ab
 else
 eK n d.cp (fun jb =>
  gA n d.cp (fun lF =>
  k0 ⟨b,jb,lF⟩ true) n 0 ([])) n 0 ([])
def tQ (n:Nat) (d:aa) (k0:aa->Option R):Option R:=none
def ug (n:Nat) (d:Device) (k0:Fs->Bool->Option R):Option R:=none
def oq (n:Nat) (d:aa) (k0:(List Node)->Option R):Option R:=none
def tM (n:Nat) (e:Event) (w:World) (k0:World->Option R):Option R :=
 p9 n w.Fs.Mem e fun xm r cZ =>
 bif cZ then
  bif (r==0) then
  lq n w.Model e fun dQ =>
  bif (e.Kind==6) then
   g8 n ⟨xm,w.Fs.Device⟩ e.At fun f lu =>
   let row:=(([])++w.jk)
   aJ (bg row) <|
   let b8:=(row++([r]))
   aJ (bg b8) <|
   k0 ⟨f,dQ,b8,w.Kept⟩
  else
  bif (e.Kind==7) then
   oW n ⟨xm,w.Fs.Device⟩ fun Ni =>
   let fg:=(([])++dQ)
   aJ (bg fg) <|
   let zc:=(([])++w.jk)
   aJ (bg zc) <|
   let TJ:=(zc++([r]))
   aJ (bg TJ) <|
   k0 ⟨Ni,dQ,TJ,fg⟩
  else
  bif (e.Kind==8) then
   og n w.Fs.Device fun d nj =>
   tQ n d fun xx =>
   kE n xx fun XP xt =>
   bif xt then
   ug n XP fun Y5 D8 =>
   oq n Y5.Mem.aa fun uo =>
   let T8:=(([])++uo)
   aJ (bg T8) <|
   let TF:=(([])++w.jk)
   aJ (bg TF) <|
   let T6:=(TF++([r]))
   aJ (bg T6) <|
   k0 ⟨Y5,uo,T6,T8⟩
   else
   oq n xm.aa fun D5 =>
   let TQ:=(([])++D5)
   aJ (bg TQ) <|
   let TK:=(([])++w.jk)
   aJ (bg TK) <|
   let Qv:=(TK++([r]))
   aJ (bg Qv) <|
   k0 ⟨⟨xm,w.Fs.Device⟩,D5,Qv,TQ⟩
  else
  let PE:=(([])++w.jk)
  aJ (bg PE) <|
  let Qg:=(PE++([r]))
  aJ (bg Qg) <|
  k0 ⟨⟨xm,w.Fs.Device⟩,dQ,Qg,w.Kept⟩
  else
  bif (e.Kind==6) then
  g8 n ⟨xm,w.Fs.Device⟩ e.At fun f_3 KW =>
  let PT:=(([])++w.jk)
  aJ (bg PT) <|
  let PJ:=(PT++([r]))
  aJ (bg PJ) <|
  k0 ⟨f_3,w.Model,PJ,w.Kept⟩
  else
  bif (e.Kind==7) then
  oW n ⟨xm,w.Fs.Device⟩ fun f_4 =>
  let Qa:=(([])++w.Model)
  aJ (bg Qa) <|
  let PN:=(([])++w.jk)
  aJ (bg PN) <|
  let PY:=(PN++([r]))
  aJ (bg PY) <|
  k0 ⟨f_4,w.Model,PY,Qa⟩
  else
  bif (e.Kind==8) then
  og n w.Fs.Device fun d_3 nh =>
  tQ n d_3 fun d_4 =>
  kE n d_4 fun d_5 C0 =>
  bif C0 then
   ug n d_5 fun f_5 MY =>
   oq n f_5.Mem.aa fun Ju =>
   let P4:=(([])++Ju)
   aJ (bg P4) <|
   let PU:=(([])++w.jk)
   aJ (bg PU) <|
   let PB:=(PU++([r]))
   aJ (bg PB) <|
   k0 ⟨f_5,Ju,PB,P4⟩
  else
  oq n xm.aa fun ME =>
  let Qo:=(([])++ME)
  aJ (bg Qo) <|
  let Qb:=(([])++w.jk)
  aJ (bg Qb) <|
  let Qt:=(Qb++([r]))
  aJ (bg Qt) <|
  k0 ⟨⟨xm,w.Fs.Device⟩,ME,Qt,Qo⟩
  else
  let PA:=(([])++w.jk)
  aJ (bg PA) <|
  let P5:=(PA++([r]))
  aJ (bg P5) <|
  k0 ⟨⟨xm,w.Fs.Device⟩,w.Model,P5,w.Kept⟩
 else
 bif (e.Kind==6) then
  g8 n w.Fs e.At fun f_6 SD =>
  let PC:=(([])++w.jk)
  aJ (bg PC) <|
  let PI:=(PC++([r]))
  aJ (bg PI) <|
  k0 ⟨f_6,w.Model,PI,w.Kept⟩
 else
 bif (e.Kind==7) then
  oW n w.Fs fun f_7 =>
  let Qw:=(([])++w.Model)
  aJ (bg Qw) <|
  let P6:=(([])++w.jk)
  aJ (bg P6) <|
  let PQ:=(P6++([r]))
  aJ (bg PQ) <|
  k0 ⟨f_7,w.Model,PQ,Qw⟩
 else
 bif (e.Kind==8) then
  og n w.Fs.Device fun d_6 SY =>
  tQ n d_6 fun d_7 =>
  kE n d_7 fun d_8 Jt =>
  bif Jt then
  ug n d_8 fun f_8 X2 =>
  oq n f_8.Mem.aa fun SC =>
  let PK:=(([])++SC)
  aJ (bg PK) <|
  let Qc:=(([])++w.jk)
  aJ (bg Qc) <|
  let Qk:=(Qc++([r]))
  aJ (bg Qk) <|
  k0 ⟨f_8,SC,Qk,PK⟩
  else
  oq n w.Fs.Mem.aa fun Ql =>
  let Qq:=(([])++Ql)
  aJ (bg Qq) <|
  let Qf:=(([])++w.jk)
  aJ (bg Qf) <|
  let Qr:=(Qf++([r]))
  aJ (bg Qr) <|
  k0 ⟨w.Fs,Ql,Qr,Qq⟩
 else
 let Py:=(([])++w.jk)
 aJ (bg Py) <|
 let PS:=(Py++([r]))
 aJ (bg PS) <|
 k0 ⟨w.Fs,w.Model,PS,w.Kept⟩
def l6 (n:Nat) (b:List UInt8) (q0:Int->Int->Int->(List Bool)->(List Bool)->(List aR)->(List Block)->(List Bool)->(List bO)->(List ByteArray)->(List Node)->(List Int)->(List Node)->Option R):Nat->Int->Int->Int->Int->(List Bool)->(List Bool)->(List aR)->(List Block)->(List Bool)->(List bO)->(List ByteArray)->(List Node)->(List Int)->(List Node)->Option R
 | 0,_,_,_,_,_,_,_,_,_,_,_,_,_,_=>none
 | m+1,i,mX,xh,eF,qZ,dJ,oR,jV,gZ,zu,rV,Js,HF,vK =>
  aM 24 ⟨b,mX,xh⟩ fun r lo =>
  bif (decide (i<(aC (4+r)))) then
  ej n ⟨⟨⟨⟨⟨qZ,dJ⟩,oR,jV⟩,gZ,zu,eF⟩,⟨rV⟩⟩,Js,HF,vK⟩ ⟨b,lo.i,lo.h⟩ fun e bX =>
  tM n e ⟨⟨⟨⟨⟨qZ,dJ⟩,oR,jV⟩,gZ,zu,eF⟩,⟨rV⟩⟩,Js,HF,vK⟩ fun wo =>
  l6 n b q0 m (aC (i+1)) bX.i bX.h wo.Fs.Mem.Next wo.Fs.Mem.aa.au.ab wo.Fs.Mem.aa.au.bB wo.Fs.Mem.aa.ad wo.Fs.Mem.aa.ab wo.Fs.Mem.an wo.Fs.Mem.ae wo.Fs.Device.cp wo.Model wo.jk wo.Kept
  else
  q0 lo.i lo.h eF qZ dJ oR jV gZ zu rV Js HF vK
def wT (n:Nat) (c:et) (k0:Fs->et->Option R):Option R :=
 zW n fun f =>
 l6 n c.b (fun i xh v eF dx fX jb lF ix uV Cx qZ dJ =>
  k0 ⟨⟨⟨⟨eF,dx⟩,fX,jb⟩,lF,ix,v⟩,⟨uV⟩⟩ ⟨c.b,i,xh⟩) n 0 c.i c.h f.Mem.Next f.Mem.aa.au.ab f.Mem.aa.au.bB f.Mem.aa.ad f.Mem.aa.ab f.Mem.an f.Mem.ae f.Device.cp ([]) ([]) ([])
def lN (n:Nat) (c:et) (k0:aa->et->Option R):Option R :=
 cR 3 c fun r lo =>
 bif r then
  pV n ⟨c.b,lo.i,lo.h⟩ fun d bX =>
  k0 d ⟨c.b,bX.i,bX.h⟩
 else
 wT n ⟨c.b,lo.i,lo.h⟩ fun f bQ =>
 cR 2 ⟨c.b,bQ.i,bQ.h⟩ fun cZ mj =>
 bif cZ then
  iF n f.Mem.aa fun xx =>
  k0 xx ⟨c.b,mj.i,mj.h⟩
 else
 og n f.Device fun XP dQ =>
 k0 XP ⟨c.b,mj.i,mj.h⟩
def qz (n:Nat) (code:List UInt8) (k0:aa->Option R):Option R :=
 sX n code fun l =>
 lN n l fun d lo =>
 iF n d fun xx =>
 k0 xx
def mP (l:List Bool) (k0:(List Bool)->Option R):Option R :=
 let row:=(([])++l)
 aJ (bg row) <|
 k0 row
def qP (b:au) (k0:au->Option R):Option R :=
 mP b.ab fun r =>
 mP b.bB fun cZ =>
 k0 ⟨r,cZ⟩
def qD (l:List Int) (k0:(List Int)->Option R):Option R :=
 let row:=(([])++l)
 aJ (bg row) <|
 k0 row
def po (x:aR) (k0:aR->Option R):Option R :=
 qD x.ax fun r =>
 k0 ⟨x.Kind,x.Links,r⟩
def pa (b:Block) (k0:Block->Option R):Option R :=
 let row:=(([])++b.ah)
 aJ (bg row) <|
 k0 ⟨b.bZ,row,b.Text⟩
def iJ (x:Int) (q7:List aR) (q0:(List aR)->Option R):Nat->Int->(List aR)->Option R
 | 0,_,_=>none
 | m+1,fI,dJ =>
  bif (decide (fI<x)) then
  aJ (aZ fI q7.length) <|
  let el:=(q7.getD fI.toNat ay)
  po el fun i =>
  let row:=(dJ++([i]))
  aJ (bg row) <|
  iJ x q7 q0 m (aC (fI+1)) row
  else
  q0 dJ
def fF (x:Int) (q7:List Block) (q0:(List Block)->Option R):Nat->Int->(List Block)->Option R
 | 0,_,_=>none
 | m+1,fI,uV =>
  bif (decide (fI<x)) then
  aJ (aZ fI q7.length) <|
  let el:=(q7.getD fI.toNat aA)
  pa el fun b =>
  let row:=(uV++([b]))
  aJ (bg row) <|
  fF x q7 q0 m (aC (fI+1)) row
  else
  q0 uV
def qG (n:Nat) (d:aa) (k0:aa->Option R):Option R :=
 qP d.au fun b =>
 iJ (d.ad.length:Int) d.ad (fun v =>
  fF (d.ab.length:Int) d.ab (fun eF =>
  k0 ⟨b,v,eF⟩) n 0 ([])) n 0 ([])
def wQ (n:Nat) (d:aa) (k0:Mem->Option R):Option R :=
 qG n d fun xx =>
 k0 ⟨xx,(List.replicate 21 false),[],1⟩
def w7 (n:Nat) (c:et) (k0:Mem->et->Option R):Option R :=
 wT n c fun f lo =>
 k0 f.Mem ⟨c.b,lo.i,lo.h⟩
def ig (b:List UInt8) (q0:Int->Int->(List Bool)->Option R):Nat->Int->Int->Int->(List Bool)->Option R
 | 0,_,_,_,_=>none
 | m+1,i,mX,xh,dx =>
  bif (decide (i<(dx.length:Int))) then
  cR 2 ⟨b,mX,xh⟩ fun r lo =>
  aJ (aZ i dx.length) <|
  let row:=(dx.set i.toNat r)
  ig b q0 m (aC (i+1)) lo.i lo.h row
  else
  q0 mX xh dx
def iu (b:List UInt8) (q0:Int->Int->(List Bool)->Option R):Nat->Int->Int->Int->(List Bool)->Option R
 | 0,_,_,_,_=>none
 | m+1,i,mX,xh,fX =>
  bif (decide (i<(fX.length:Int))) then
  cR 2 ⟨b,mX,xh⟩ fun r lo =>
  aJ (aZ i fX.length) <|
  let row:=(fX.set i.toNat r)
  iu b q0 m (aC (i+1)) lo.i lo.h row
  else
  q0 mX xh fX
def ue (n:Nat) (c:et) (k0:au->et->Option R):Option R :=
 lS fun b =>
 ig c.b (fun i xh v =>
  iu c.b (fun mX PH eF =>
  cR 10 ⟨c.b,mX,PH⟩ fun r lo =>
  bif r then
   aJ (xf 1 v.length) <|
   cR 10 ⟨c.b,lo.i,lo.h⟩ fun cZ bX =>
   bif cZ then
   let row:=(eF++([true]))
   aJ (bg row) <|
   k0 ⟨(sub v 1 (v.length-1)),row⟩ ⟨c.b,bX.i,bX.h⟩
   else
   k0 ⟨(sub v 1 (v.length-1)),eF⟩ ⟨c.b,bX.i,bX.h⟩
  else
  cR 10 ⟨c.b,lo.i,lo.h⟩ fun dQ bQ =>
  bif dQ then
   let b8:=(eF++([true]))
   aJ (bg b8) <|
   k0 ⟨v,b8⟩ ⟨c.b,bQ.i,bQ.h⟩
  else
  k0 ⟨v,eF⟩ ⟨c.b,bQ.i,bQ.h⟩) n 0 i xh b.bB) n 0 c.i c.h b.ab
def mH (c:et) (k0:aR->et->Option R):Option R :=
 mf c fun i lo =>
 aM 12 ⟨c.b,lo.i,lo.h⟩ fun r bX =>
 bif (r==0) then
  let lit:=([-1,0,3]:List Int)
  dC lit ⟨c.b,bX.i,bX.h⟩ fun cZ bQ =>
  k0 ⟨cZ,i.Links,i.ax⟩ ⟨c.b,bQ.i,bQ.h⟩
 else
 bif (r==1) then
  let xg:=([-1,0,200,201]:List Int)
  dC xg ⟨c.b,bX.i,bX.h⟩ fun dQ mj =>
  k0 ⟨i.Kind,dQ,i.ax⟩ ⟨c.b,mj.i,mj.h⟩
 else
 bif (r==2) then
  let Qi:=([-1,16,17]:List Int)
  dC Qi ⟨c.b,bX.i,bX.h⟩ fun lu qd =>
  aJ (aZ 0 i.ax.length) <|
  let row:=(i.ax.set 0 lu)
  k0 ⟨i.Kind,i.Links,row⟩ ⟨c.b,qd.i,qd.h⟩
 else
 bif (r==3) then
  aJ (xf 1 i.ax.length) <|
  k0 ⟨i.Kind,i.Links,(sub i.ax 1 (i.ax.length-1))⟩ ⟨c.b,bX.i,bX.h⟩
 else
 k0 i ⟨c.b,bX.i,bX.h⟩
def jS (xn:Int) (x:Int) (q0:(List UInt8)->Option R):Nat->Int->(List UInt8)->Option R
 | 0,_,_=>none
 | m+1,i,out =>
  bif (decide (i<xn)) then
  aJ (aZ i out.length) <|
  let row:=(out.set i.toNat (UInt8.ofNat x.toNat))
  aJ (j5 x) <|
  jS xn x q0 m (aC (i+1)) row
  else
  q0 out
def ud (n:Nat) (xn:Int) (x:Int) (k0:ByteArray->Option R):Option R :=
 aJ (Xx xn xn) <|
 jS xn x (fun out =>
  k0 (yW out)) n 0 (List.replicate xn.toNat 0)
def kj (n:Nat) (c:et) (k0:Block->et->Option R):Option R :=
 lZ n c fun b lo =>
 mb b fun xp =>
 aM 12 ⟨c.b,lo.i,lo.h⟩ fun r bX =>
 bif (r==0) then
  k0 ⟨!xp.bZ,xp.ah,xp.Text⟩ ⟨c.b,bX.i,bX.h⟩
 else
 bif (r==1) then
  aM 2 ⟨c.b,bX.i,bX.h⟩ fun cZ bQ =>
  ud n (aC (16+cZ)) 65 fun dQ =>
  k0 ⟨xp.bZ,xp.ah,dQ⟩ ⟨c.b,bQ.i,bQ.h⟩
 else
 bif (r==2) then
  bif (decide (0<(xp.ah.length:Int))) then
  let lit:=([-1,0,8,9]:List Int)
  dC lit ⟨c.b,bX.i,bX.h⟩ fun lu mj =>
  aJ (aZ 1 xp.ah.length) <|
  let row:=(xp.ah.set 1 ⟨(xp.ah.getD 1 aq).Name,lu⟩)
  k0 ⟨xp.bZ,row,xp.Text⟩ ⟨c.b,mj.i,mj.h⟩
  else
  k0 xp ⟨c.b,bX.i,bX.h⟩
 else
 bif (r==3) then
  bif (decide (0<(xp.ah.length:Int))) then
  let xg:=([eS,S [65],S [97],S [97,98,99,100,101,102,103]]:List ByteArray)
  fN xg ⟨c.b,bX.i,bX.h⟩ fun nj qd =>
  aJ (aZ 0 xp.ah.length) <|
  let b8:=(xp.ah.set 0 ⟨nj,(xp.ah.getD 0 aq).Ino⟩)
  k0 ⟨xp.bZ,b8,xp.Text⟩ ⟨c.b,qd.i,qd.h⟩
  else
  k0 xp ⟨c.b,bX.i,bX.h⟩
 else
 k0 xp ⟨c.b,bX.i,bX.h⟩
def mJ (n:Nat) (c:et) (k0:aa->et->Option R):Option R :=
 lN n c fun d lo =>
 iF n d fun xx =>
 aM 12 ⟨c.b,lo.i,lo.h⟩ fun r bX =>
 bif (r==0) then
  ue n ⟨c.b,bX.i,bX.h⟩ fun b bQ =>
  k0 ⟨b,xx.ad,xx.ab⟩ ⟨c.b,bQ.i,bQ.h⟩
 else
 bif (r==1) then
  aM 8 ⟨c.b,bX.i,bX.h⟩ fun cZ mj =>
  mH ⟨c.b,mj.i,mj.h⟩ fun i qd =>
  aJ (aZ cZ xx.ad.length) <|
  let row:=(xx.ad.set cZ.toNat i)
  k0 ⟨xx.au,row,xx.ab⟩ ⟨c.b,qd.i,qd.h⟩
 else
 bif (r==2) then
  aM 16 ⟨c.b,bX.i,bX.h⟩ fun dQ HJ =>
  kj n ⟨c.b,HJ.i,HJ.h⟩ fun xp HD =>
  aJ (aZ dQ xx.ab.length) <|
  let b8:=(xx.ab.set dQ.toNat xp)
  k0 ⟨xx.au,xx.ad,b8⟩ ⟨c.b,HD.i,HD.h⟩
 else
 bif (r==3) then
  aJ (xf 1 xx.ad.length) <|
  k0 ⟨xx.au,(sub xx.ad 1 (xx.ad.length-1)),xx.ab⟩ ⟨c.b,bX.i,bX.h⟩
 else
 k0 xx ⟨c.b,bX.i,bX.h⟩
def jt (n:Nat) (c:et) (k0:Mem->et->Option R):Option R :=
 w7 n c fun xm lo =>
 dw n xm fun ba =>
 aM 16 ⟨c.b,lo.i,lo.h⟩ fun r bX =>
 bif (r==0) then
  mJ n ⟨c.b,bX.i,bX.h⟩ fun d bQ =>
  k0 ⟨d,ba.an,ba.ae,ba.Next⟩ ⟨c.b,bQ.i,bQ.h⟩
 else
 bif (r==1) then
  aJ (xf 1 ba.an.length) <|
  k0 ⟨ba.aa,(sub ba.an 1 (ba.an.length-1)),ba.ae,ba.Next⟩ ⟨c.b,bX.i,bX.h⟩
 else
 bif (r==2) then
  let lit:=([0,1,100000,100001]:List Int)
  dC lit ⟨c.b,bX.i,bX.h⟩ fun cZ mj =>
  k0 ⟨ba.aa,ba.an,ba.ae,cZ⟩ ⟨c.b,mj.i,mj.h⟩
 else
 bif (r==3) then
  bif (decide (0<(ba.ae.length:Int))) then
  aM (ba.ae.length:Int) ⟨c.b,bX.i,bX.h⟩ fun dQ qd =>
  aM 7 ⟨c.b,qd.i,qd.h⟩ fun lu HJ =>
  aJ (aZ dQ ba.ae.length) <|
  let row:=(ba.ae.set dQ.toNat ⟨(ba.ae.getD dQ.toNat aT).Id,lu,(ba.ae.getD dQ.toNat aT).Ino,(ba.ae.getD dQ.toNat aT).Ptr,(ba.ae.getD dQ.toNat aT).Block,(ba.ae.getD dQ.toNat aT).Slot,(ba.ae.getD dQ.toNat aT).Name,(ba.ae.getD dQ.toNat aT).au,(ba.ae.getD dQ.toNat aT).gy,(ba.ae.getD dQ.toNat aT).bC,(ba.ae.getD dQ.toNat aT).ab⟩)
  let xg:=([-1,0,3,16,17]:List Int)
  dC xg ⟨c.b,HJ.i,HJ.h⟩ fun nj HD =>
  aJ (aZ dQ row.length) <|
  let b8:=(row.set dQ.toNat ⟨(row.getD dQ.toNat aT).Id,(row.getD dQ.toNat aT).Kind,(row.getD dQ.toNat aT).Ino,(row.getD dQ.toNat aT).Ptr,nj,(row.getD dQ.toNat aT).Slot,(row.getD dQ.toNat aT).Name,(row.getD dQ.toNat aT).au,(row.getD dQ.toNat aT).gy,(row.getD dQ.toNat aT).bC,(row.getD dQ.toNat aT).ab⟩)
  k0 ⟨ba.aa,ba.an,b8,ba.Next⟩ ⟨c.b,HD.i,HD.h⟩
  else
  k0 ba ⟨c.b,bX.i,bX.h⟩
 else
 bif (r==4) then
  bif (decide (0<(ba.ae.length:Int))) then
  aJ (aZ 0 ba.ae.length) <|
  let el:=(ba.ae.getD 0 aT)
  let fg:=(ba.ae++([el]))
  aJ (bg fg) <|
  k0 ⟨ba.aa,ba.an,fg,ba.Next⟩ ⟨c.b,bX.i,bX.h⟩
  else
  k0 ba ⟨c.b,bX.i,bX.h⟩
 else
 k0 ba ⟨c.b,bX.i,bX.h⟩
def sZ (n:Nat) (code:List UInt8) (k0:Mem->Option R):Option R :=
 sX n code fun l =>
 jt n l fun xm lo =>
 k0 xm
def dU (xn:Int) (low:Int) (high:Int) (k0:Bool->Option R):Option R :=
 k0 ((decide (low<=xn))&&(decide (xn<=high)))
def jL (x:Int) (v:Int) (q7:List Int) (q0:Bool->Option R) (q1:Option R):Nat->Int->Option R
 | 0,_=>none
 | m+1,fI =>
  bif (decide (fI<x)) then
  aJ (aZ fI q7.length) <|
  dU (q7.getD fI.toNat 0) 0 16 fun r =>
  bif (!r)||((!((q7.getD fI.toNat 0)==0))&&(v==0)) then
   q0 false
  else
  jL x v q7 q0 q1 m (aC (fI+1))
  else
  q1
def tK (n:Nat) (x:aR) (k0:Bool->Option R):Option R :=
 jL (x.ax.length:Int) x.Kind x.ax (fun fI =>
  k0 fI) (
  dU x.Kind 0 2 fun r =>
  dU x.Links 0 200 fun cZ =>
  let z:=bif r then cZ else false
  k0 (((r&&z)&&((x.ax.length:Int)==2))&&((!(x.Kind==0))||(x.Links==0)))) n 0
def kG (s:ByteArray) (x:Int) (q0:Bool->Option R) (q1:Option R):Nat->Int->Option R
 | 0,_=>none
 | m+1,fI =>
  bif (decide (fI<x)) then
  aJ (aZ fI s.size) <|
  dU (aC ((bt s fI.toNat:Int))) 97 122 fun r =>
  aJ (!(!r)||(aZ fI s.size)) <|
  dU (aC ((bt s fI.toNat:Int))) 48 57 fun cZ =>
  let z:=bif !r then cZ else false
  bif (!r)&&(!z) then
   q0 false
  else
  kG s x q0 q1 m (aC (fI+1))
  else
  q1
def sU (n:Nat) (s:ByteArray) (k0:Bool->Option R):Option R :=
 kG s (s.size:Int) (fun x =>
  k0 x) (
  dU (s.size:Int) 1 6 fun r =>
  k0 r) n 0
def wh (i:Int) (k0:Bool->Option R):Option R :=
 dU i 1 8 fun r =>
 k0 r
def vr (s:Slot) (a:ByteArray) (k0:Bool->ByteArray->Option R):Option R :=
 k0 (s.Name==a) a
def bD (x:Int) (s:List Slot) (q0:Int->ByteArray->Option R) (q1:ByteArray->Option R):Nat->Int->ByteArray->Option R
 | 0,_,_=>none
 | m+1,fI,cap =>
  bif (decide (fI<x)) then
  aJ (aZ fI s.length) <|
  let el:=(s.getD fI.toNat aq)
  vr el cap fun r vo =>
  bif r then
   q0 fI vo
  else
  bD x s q0 q1 m (aC (fI+1)) vo
  else
  q1 cap
def ea (n:Nat) (s:List Slot) (cap:ByteArray) (k0:Int->ByteArray->Option R):Option R :=
 bD (s.length:Int) s (fun x Hz =>
  k0 x Hz) (fun HH =>
  k0 (-1) HH) n 0 cap
def sm (n:Nat) (b:Block) (name:ByteArray) (k0:Int->Option R):Option R :=
 bif (name==eS) then
  k0 (-1)
 else
 ea n b.ah name fun r vo =>
 k0 r
def ie (n:Nat) (x:Int) (v:Bool) (eF:ByteArray) (q7:List Slot) (dx:List Slot) (q0:Bool->Option R) (q1:Option R):Nat->Int->Option R
 | 0,_=>none
 | m+1,fI =>
  bif (decide (fI<x)) then
  aJ (aZ fI q7.length) <|
  let el:=(q7.getD fI.toNat aq)
  bif ((el.Name==eS)&&(el.Ino==0)) then
   ie n x v eF q7 dx q0 q1 m (aC (fI+1))
  else
  sU n el.Name fun r =>
  wh el.Ino fun cZ =>
  let z:=bif !(!r) then cZ else false
  sm n ⟨v,dx,eF⟩ el.Name fun dQ =>
  let uB:=bif !((!r)||(!z)) then dQ else 0
  bif ((!r)||(!z))||(!(uB==fI)) then
   q0 false
  else
  ie n x v eF q7 dx q0 q1 m (aC (fI+1))
  else
  q1
def tG (n:Nat) (b:Block) (k0:Bool->Option R):Option R :=
 bif !b.bZ then
  k0 (((b.ah.length:Int)==0)&&(decide ((b.Text.size:Int)<=16)))
 else
 ie n (b.ah.length:Int) b.bZ b.Text b.ah b.ah (fun x =>
  k0 x) (
  k0 (((b.ah.length:Int)==4)&&(b.Text==eS))) n 0
def Be (b:au) (k0:Bool->Option R):Option R :=
 k0 (((b.ab.length:Int)==16)&&((b.bB.length:Int)==8))
def kL (n:Nat) (x:Int) (q7:List aR) (q0:Bool->Option R) (q1:Option R):Nat->Int->Option R
 | 0,_=>none
 | m+1,fI =>
  bif (decide (fI<x)) then
  aJ (aZ fI q7.length) <|
  let el:=(q7.getD fI.toNat ay)
  tK n el fun r =>
  bif !r then
   q0 false
  else
  kL n x q7 q0 q1 m (aC (fI+1))
  else
  q1
def hZ (n:Nat) (x:Int) (q7:List Block) (q0:Bool->Option R) (q1:Option R):Nat->Int->Option R
 | 0,_=>none
 | m+1,fI =>
  bif (decide (fI<x)) then
  aJ (aZ fI q7.length) <|
  let el:=(q7.getD fI.toNat aA)
  tG n el fun r =>
  bif !r then
   q0 false
  else
  hZ n x q7 q0 q1 m (aC (fI+1))
  else
  q1
def wa (n:Nat) (d:aa) (k0:Bool->Option R):Option R :=
 kL n (d.ad.length:Int) d.ad (fun x =>
  k0 x) (
  hZ n (d.ab.length:Int) d.ab (fun fI =>
  k0 fI) (
  Be d.au fun r =>
  k0 ((r&&((d.ad.length:Int)==8))&&((d.ab.length:Int)==16))) n 0) n 0
def tz (p:Int) (k0:Bool->Option R):Option R :=
 dU p 1 16 fun r =>
 k0 r
def tF (d:aa) (p:Int) (k0:Block->Option R):Option R :=
 dU p 1 (d.ab.length:Int) fun r =>
 bif !r then
  k0 ⟨false,[],eS⟩
 else
 aJ (aZ (aC (p-1)) d.ab.length) <|
 let el:=(d.ab.getD ((aC (p-1)).toNat) aA)
 k0 el
def uW (d:bO) (k0:Bool->Option R):Option R :=
 k0 ((d.Kind==1)||(d.Kind==6))
def tX (d:aa) (i:Int) (k0:aR->Option R):Option R :=
 dU i 1 (d.ad.length:Int) fun r =>
 bif !r then
  k0 ⟨0,0,[]⟩
 else
 aJ (aZ (aC (i-1)) d.ad.length) <|
 let el:=(d.ad.getD ((aC (i-1)).toNat) ay)
 k0 el
def th (d:bO) (k0:Bool->Option R):Option R :=
 k0 ((d.Kind==2)||(d.Kind==3))
def lQ (x:Int) (q7:List Int) (q0:Bool->Option R) (q1:Option R):Nat->Int->Option R
 | 0,_=>none
 | m+1,fI =>
  bif (decide (fI<x)) then
  aJ (aZ fI q7.length) <|
  tz (q7.getD fI.toNat 0) fun r =>
  bif !r then
   q0 false
  else
  lQ x q7 q0 q1 m (aC (fI+1))
  else
  q1
def z5 (n:Nat) (xm:Mem) (d:bO) (k0:Bool->Option R):Option R :=
 lQ (d.ab.length:Int) d.ab (fun x =>
  k0 x) (
  dU d.Id 1 (aC (xm.Next-1)) fun r =>
  dU d.bC 0 (aC (xm.Next-1)) fun cZ =>
  let z:=bif r then cZ else false
  dU d.Kind 1 6 fun dQ =>
  let uB:=bif !(!(r&&z)) then dQ else false
  wh d.Ino fun lu =>
  let zl:=bif !((!(r&&z))||(!uB)) then lu else false
  dU d.Ptr 0 1 fun nj =>
  let M3:=bif !(((!(r&&z))||(!uB))||(!zl)) then nj else false
  dU d.Block 0 16 fun xt =>
  let TW:=bif !((((!(r&&z))||(!uB))||(!zl))||(!M3)) then xt else false
  dU d.Slot 0 3 fun D8 =>
  let Ww:=bif !(((((!(r&&z))||(!uB))||(!zl))||(!M3))||(!TW)) then D8 else false
  bif (((((!(r&&z))||(!uB))||(!zl))||(!M3))||(!TW))||(!Ww) then
  k0 false
  else
  tF xm.aa d.Block fun b =>
  uW ⟨d.Id,d.Kind,d.Ino,d.Ptr,d.Block,d.Slot,d.Name,d.au,d.gy,d.bC,[]⟩ fun uo =>
  bif uo then
  tX xm.aa d.Ino fun i =>
  let Y9:=bif (decide (0<d.Block)) then i.Kind else 0
  let YM:=bif (decide (0<d.Block)) then i.Links else 0
  let VW:=bif (decide (0<d.Block)) then i.ax else []
  aJ (!(decide (0<d.Block))||(aZ d.Ptr VW.length)) <|
  k0 ((decide (0<d.Block))&&((VW.getD d.Ptr.toNat 0)==d.Block))
  else
  th ⟨d.Id,d.Kind,d.Ino,d.Ptr,d.Block,d.Slot,d.Name,d.au,d.gy,d.bC,[]⟩ fun D5 =>
  bif D5 then
  aJ (!((decide (0<d.Block))&&b.bZ)||(aZ d.Slot b.ah.length)) <|
  aJ (!(((decide (0<d.Block))&&b.bZ)&&(!(((b.ah.getD d.Slot.toNat aq).Name)==eS)))||(aZ d.Slot b.ah.length)) <|
  k0 ((((decide (0<d.Block))&&b.bZ)&&(!(((b.ah.getD d.Slot.toNat aq).Name)==eS)))&&(((b.ah.getD d.Slot.toNat aq).Ino)==d.Ino))
  else
  bif (d.Kind==4) then
  sU n d.Name fun KW =>
  let Yl:=bif (decide (0<d.Block))&&b.bZ then KW else false
  k0 (((decide (0<d.Block))&&b.bZ)&&Yl)
  else
  k0 true) n 0
def qk (d:bO) (a:Int) (k0:Bool->Int->Option R):Option R :=
 k0 (d.Id==a) a
def bA (x:Int) (s:List bO) (q0:Int->Int->Option R) (q1:Int->Option R):Nat->Int->Int->Option R
 | 0,_,_=>none
 | m+1,fI,cap =>
  bif (decide (fI<x)) then
  aJ (aZ fI s.length) <|
  let el:=(s.getD fI.toNat aT)
  qk el cap fun r vo =>
  bif r then
   q0 fI vo
  else
  bA x s q0 q1 m (aC (fI+1)) vo
  else
  q1 cap
def dM (n:Nat) (s:List bO) (cap:Int) (k0:Int->Int->Option R):Option R :=
 bA (s.length:Int) s (fun x Hz =>
  k0 x Hz) (fun HH =>
  k0 (-1) HH) n 0 cap
def qj (n:Nat) (xm:Mem) (id:Int) (k0:Int->Option R):Option R :=
 dM n xm.ae id fun r vo =>
 k0 r
def lJ (n:Nat) (x:Int) (v:Int) (q7:List bO) (eF:List Bool) (dx:List Bool) (fX:List aR) (jb:List Block) (lF:List Bool) (ix:List bO) (q0:Bool->Option R) (q1:Option R):Nat->Int->Option R
 | 0,_=>none
 | m+1,fI =>
  bif (decide (fI<x)) then
  aJ (aZ fI q7.length) <|
  let el:=(q7.getD fI.toNat aT)
  z5 n ⟨⟨⟨eF,dx⟩,fX,jb⟩,lF,ix,v⟩ el fun r =>
  qj n ⟨⟨⟨eF,dx⟩,fX,jb⟩,lF,ix,v⟩ el.Id fun cZ =>
  let z:=bif !(!r) then cZ else 0
  bif (!r)||(!(z==fI)) then
   q0 false
  else
  lJ n x v q7 eF dx fX jb lF ix q0 q1 m (aC (fI+1))
  else
  q1
def wH (n:Nat) (xm:Mem) (k0:Bool->Option R):Option R :=
 wa n xm.aa fun r =>
 dU xm.Next 1 100000 fun cZ =>
 let z:=bif !(((!r)||(!((xm.an.length:Int)==21)))||(decide (40<(xm.ae.length:Int)))) then cZ else false
 bif (((!r)||(!((xm.an.length:Int)==21)))||(decide (40<(xm.ae.length:Int))))||(!z) then
  k0 false
 else
 lJ n (xm.ae.length:Int) xm.Next xm.ae xm.aa.au.ab xm.aa.au.bB xm.aa.ad xm.aa.ab xm.an xm.ae (fun x =>
  k0 x) (
  k0 true) n 0
def e9 (a:List Bool) (b:List Bool) (q0:Bool->Option R) (q1:Option R):Nat->Int->Option R
 | 0,_=>none
 | m+1,i =>
  bif (decide (i<(a.length:Int))) then
  aJ (aZ i a.length) <|
  aJ (aZ i b.length) <|
  bif !((a.getD i.toNat false)==(b.getD i.toNat false)) then
   q0 false
  else
  e9 a b q0 q1 m (aC (i+1))
  else
  q1
def jc (n:Nat) (a:List Bool) (b:List Bool) (k0:Bool->Option R):Option R :=
 bif (!((a.length:Int)==(b.length:Int))) then
  k0 false
 else
 e9 a b (fun x =>
  k0 x) (
  k0 true) n 0
def jK (jb:List Int) (lF:List Int) (q0:Bool->Option R) (q1:Option R):Nat->Int->Option R
 | 0,_=>none
 | m+1,i =>
  bif (decide (i<(jb.length:Int))) then
  aJ (aZ i jb.length) <|
  aJ (aZ i lF.length) <|
  bif (!((jb.getD i.toNat 0)==(lF.getD i.toNat 0))) then
   q0 false
  else
  jK jb lF q0 q1 m (aC (i+1))
  else
  q1
def um (n:Nat) (a:aR) (b:aR) (k0:Bool->Option R):Option R :=
 bif ((!(a.Kind==b.Kind))||(!(a.Links==b.Links)))||(!((a.ax.length:Int)==(b.ax.length:Int))) then
  k0 false
 else
 jK a.ax b.ax (fun x =>
  k0 x) (
  k0 true) n 0
def jJ (jb:List Slot) (lF:List Slot) (q0:Bool->Option R) (q1:Option R):Nat->Int->Option R
 | 0,_=>none
 | m+1,i =>
  bif (decide (i<(jb.length:Int))) then
  aJ (aZ i jb.length) <|
  let el:=(jb.getD i.toNat aq)
  aJ (aZ i lF.length) <|
  let CW:=(lF.getD i.toNat aq)
  bif !((el.Name==CW.Name)&&(el.Ino==CW.Ino)) then
   q0 false
  else
  jJ jb lF q0 q1 m (aC (i+1))
  else
  q1
def uh (n:Nat) (a:Block) (b:Block) (k0:Bool->Option R):Option R :=
 bif ((!(a.bZ==b.bZ))||(!(a.Text==b.Text)))||(!((a.ah.length:Int)==(b.ah.length:Int))) then
  k0 false
 else
 jJ a.ah b.ah (fun x =>
  k0 x) (
  k0 true) n 0
def iK (n:Nat) (dx:List aR) (ix:List aR) (q0:Bool->Option R) (q1:Option R):Nat->Int->Option R
 | 0,_=>none
 | m+1,i =>
  bif (decide (i<(dx.length:Int))) then
  aJ (aZ i dx.length) <|
  let el:=(dx.getD i.toNat ay)
  aJ (aZ i ix.length) <|
  let CW:=(ix.getD i.toNat ay)
  um n el CW fun r =>
  bif !r then
   q0 false
  else
  iK n dx ix q0 q1 m (aC (i+1))
  else
  q1
def fC (n:Nat) (fX:List Block) (uV:List Block) (q0:Bool->Option R) (q1:Option R):Nat->Int->Option R
 | 0,_=>none
 | m+1,i =>
  bif (decide (i<(fX.length:Int))) then
  aJ (aZ i fX.length) <|
  let el:=(fX.getD i.toNat aA)
  aJ (aZ i uV.length) <|
  let CW:=(uV.getD i.toNat aA)
  uh n el CW fun r =>
  bif !r then
   q0 false
  else
  fC n fX uV q0 q1 m (aC (i+1))
  else
  q1
def qL (n:Nat) (a:aa) (b:aa) (k0:Bool->Option R):Option R :=
 jc n a.au.ab b.au.ab fun r =>
 jc n a.au.bB b.au.bB fun cZ =>
 let z:=bif !(!r) then cZ else false
 bif (((!r)||(!z))||(!((a.ad.length:Int)==(b.ad.length:Int))))||(!((a.ab.length:Int)==(b.ab.length:Int))) then
  k0 false
 else
 iK n a.ad b.ad (fun x =>
  k0 x) (
  fC n a.ab b.ab (fun fI =>
  k0 fI) (
  k0 true) n 0) n 0
def v8 (n:Nat) (code:List UInt8) (k0:Bool->Option R):Option R :=
 Ke code fun r =>
 bif r then
  k0 true
 else
 qz n code fun d =>
 wQ n d fun xm =>
 sZ n code fun ba =>
 wH n xm fun cZ =>
 qL n xm.aa d fun dQ =>
 let z:=bif cZ then dQ else false
 aJ (!((((cZ&&z)&&((xm.ae.length:Int)==0))&&(xm.Next==1))&&((xm.an.length:Int)==21))||(aZ 0 xm.an.length)) <|
 wH n ba fun lu =>
 let uB:=bif ((((cZ&&z)&&((xm.ae.length:Int)==0))&&(xm.Next==1))&&((xm.an.length:Int)==21))&&(!(xm.an.getD 0 false)) then lu else false
 k9 n ba fun nj =>
 let zl:=bif ((((cZ&&z)&&((xm.ae.length:Int)==0))&&(xm.Next==1))&&((xm.an.length:Int)==21))&&(!(xm.an.getD 0 false)) then nj else false
 k0 ((((((cZ&&z)&&((xm.ae.length:Int)==0))&&(xm.Next==1))&&((xm.an.length:Int)==21))&&(!(xm.an.getD 0 false)))&&(uB==zl))
instance:LawfulBEq ByteArray where
 eq_of_beq {a b} h:=by
  cases a; cases b
  have h:(_==_)=true:=h
  exact congrArg ByteArray.mk (eq_of_beq (α:=Array UInt8) h)
 rfl {a}:=by cases a; exact beq_self_eq_true (α:=Array UInt8) _
theorem cq {n:Int} (h1: -9223372036854775808<=n) (h2:n<=9223372036854775807):aC n=n:=by
 simp only [aC,IntKind.wrap_i64]; omega
theorem ee {n:Nat} (h:n<=9223372036854775807):aC (n:Int)=n:=cq (by omega) (by omega)
theorem bM {n:Nat} (h:n<=4611686018427387904):aC ((n:Int)+1)=((n+1:Nat):Int):=by rw [cq (by omega) (by omega)]; rfl
theorem aG (i n:Nat):aZ (i:Int) n=decide (i<n):=by
 simp only [aZ]
 by_cases h:i<n
 ·simp [h]
 ·simp [h]
theorem bk (i n:Nat):decide ((i:Int)<(n:Int))=decide (i<n):=by simp
theorem bf (k:Option R):aJ true k=k:=rfl
theorem aj {c:Bool} {k:Option R} (h:c=true):aJ c k=k:=by rw [h]; rfl
theorem cn {α:Type} {l:List α} (h:l.length<=1099511627776):bg l=true:=Nat.ble_eq_true_of_le h
theorem iO {a b:ByteArray} (h:a.size+b.size<=4611686018427387904):mi a b=true:=decide_eq_true h
theorem bK {α:Type} (a b:α):(bif true then a else b)=a:=rfl
theorem br {α:Type} (a b:α):(bif false then a else b)=b:=rfl
theorem JY {α β:Type} (k:α->β) (c:Bool) (a b:α):(bif c then k a else k b)=k (bif c then a else b):=by cases c<;>rfl
def bq:Nat:=100000000
def cO:Nat:=2097152
theorem j9 {L:Nat->Int->Option R} {len B:Nat} {p:Nat->Bool} {e q:Option R} (hl:len<=4611686018427387904)
  (hs:∀ m i,B<m->i<len->L (m+1) (i:Int)=bif p i then L m (aC ((i:Int)+1)) else e) (hq:∀ m,L (m+1) (len:Int)=q) :
  ∀ (k m i:Nat),i+k=len->k+B<m->L m (i:Int)=bif (List.range' i k).all p then q else e
 | 0,0,i,h1,h2=>by omega
 | 0,m+1,i,h1,h2=>by
  have:i=len:=by omega
  subst this; rw [hq]; rfl
 | k+1,0,i,h1,h2=>by omega
 | k+1,m+1,i,h1,h2=>by
  rw [hs m i (by omega) (by omega),bM (by omega),List.range'_succ,List.all_cons]
  cases hp:p i with
  | false=>rfl
  | true=>rw [j9 hl hs hq k m (i+1) (by omega) (by omega)]; rfl
theorem Dj {α:Type} (l:List α) (d:α) (P:α->Bool):(List.range' 0 l.length).all (fun i=>P (l.getD i d))=l.all P:=by
 have h:(List.range' 0 l.length).map (fun i=>l.getD i d)=l:=by
  apply List.ext_getElem
  ·simp
  ·intro i h1 h2; simp at h2 ⊢; simp [h2]
 conv=>rhs; rw [← h,List.all_map]
 rfl
def within (x a b:Int):Bool:=decide (a<=x)&&decide (x<=b)
theorem iX (x a b:Int) (k:Bool->Option R):ch x a b k=k (within x a b):=rfl
def aY (kind:Int):aR:=⟨kind,bif kind==0 then 0 else 1,[0,0]⟩
theorem jf (kind:Int) (k:aR->Option R):dW kind k=k (aY kind):=by
 simp only [dW,aY]; cases kind==0<;>rfl
def bj (x:aR):Bool:=within x.Kind 0 2&&(within x.Links 0 200&&(x.ax.length==2&&(x.ax.all (fun p=>within p 0 16&&(x.Kind != 0||p==0))&&(x.Kind != 0||x.Links==0))))
theorem u9 {n:Nat} (hn:bq<=n) (x:aR) (k:Bool->Option R):nY n x k=k (bj x):=by
 simp only [nY,iX,bj]
 cases within x.Kind 0 2 with
 | false=>rfl
 | true =>
  cases within x.Links 0 200 with
  | false=>rfl
  | true =>
   simp only [zM,zN,zE,Bool.false_or,Bool.true_and]
   by_cases hp:x.ax.length=2
   ·have yy:(x.ax.length:Int)==2:=by simp [hp]
    rw [yy,hp]
    have:=j9 (R:=R) (L:=jG x.Kind x.ax (fun fI=>k fI) (k ((!(x.Kind==0))||(x.Links==0)))) (len:=2) (B:=0) (p:=fun i=>within (x.ax.getD i 0) 0 16&&(x.Kind != 0||x.ax.getD i 0==0))
     (e:=k false) (q:=k ((!(x.Kind==0))||(x.Links==0))) (by omega) (fun m i _ hi=>by
      simp only [jG,iX,aG,hp,zC]
      rw [show decide ((i:Int)<2)=true by simp; omega,show decide (i<2)=true by simp; omega]
      simp only [zE,bf,Bool.or_true,bne]
      cases within (x.ax.getD i 0) 0 16<;>cases x.Kind==0<;>cases x.ax.getD i 0==0<;>rfl) (fun m=>by simp [jG]) 2 n 0 rfl (by simp only [bq] at hn; omega)
    simp only [zM,zF]
    refine this.trans ?_
    rw [← hp,Dj x.ax 0 (fun p=>within p 0 16&&(x.Kind != 0||p==0))]
    simp only [beq_self_eq_true,Bool.true_and,bne]
    rw [JY]; congr 1
    cases List.all x.ax _<;>rfl
   ·have yy:((x.ax.length:Int)==2)=false:=by simp; omega
    have MK:(x.ax.length==2)=false:=by simpa using hp
    rw [yy,MK]; rfl
end Go.Soft
