import Derived.Test.YthkhihfodaobkaaGreatDB
import Derived.Orders
import Derived.LoopN
import Derived.Laws.BitsLemmas
set_option linter.constructorNameAsVariable false
set_option linter.unusedSimpArgs false
set_option linter.unusedVariables false
namespace Go.Soft
open Go
variable {X:Ctx} {m M:Lk} {γ γ':Gh} {w w':World} {ρ:Operand->Value} {S T:St} {δ δ':Dl}
section
variable {R:Type} {E:Env R} {ops:Array Oper}
def HI (S:St) (rs:List Rec) (i:Nat):St:=(rs.take i).foldl ln S
def aao (X:Ctx) (E:Env R) (ops:Array Oper) (S:St) (rs:List Rec):Prop:=∀ (i:Nat) (x:Rec),rs[i]? =some x ->
 ∀ K:List (Nat×Bool)×Bool×AV×Dl->Option R,(A8 X E ops ((HI S rs i).cut ops x.o) x.o fun p q v δ=>K (p,q,v,δ))=K (x.p,x.q,x.v,x.δ)
def Jg (ops:Array Oper):St->List Rec->List Fp
 | _,[]=>[]
 | S,x::l=>jb ops S x.o x.v x.δ::Jg ops (ln S x) l
theorem B6:∀ (rs:List Rec) (S:St) (i:Nat) (x:Rec),rs[i]? =some x->(Jg ops S rs)[i]? =some (jb ops (HI S rs i) x.o x.v x.δ)
 | [],_,_,_,h=>by simp at h
 | y::l,S,0,x,h=>by simp at h; subst h; rfl
 | y::l,S,i+1,x,h=>by
  have:=B6 l (ln S y) i x (by simpa using h)
  simpa [Jg,HI] using this
theorem trace (r0:R) (hE:∀ f cf cH,gx (E.fn f cf cH)) {s':St} {fp':List Fp}:∀ (l:List Oper) (S:St) (fp:List Fp),(∀ K:St×List Fp->Option R,(gr X E ops true l S fp fun s f=>K (s,f))=K (s',fp')) ->
  ∃ rs:List Rec,rs.map (·.o)=l/\aao X E ops S rs/\s'=rs.foldl ln S/\fp'=fp++Jg ops S rs
 | [],S,fp,h=>by
  have:=iU r0 h
  simp only [zG] at this
  exact ⟨[],rfl,fun i x hx=>by simp at hx,this.1.symm,by simp [Jg,this.2]⟩
 | o::l,S,fp,h=>by
  obtain ⟨oc,ry⟩:=um (X:=X) hE ops (S.cut ops o) o
  cases oc with
  | none =>
   exact False.elim<|bM r0 (α:=St×List Fp) (y:=(s',fp')) fun K=>by
    have h1:=h K
    have h2:=ry fun x=>gr X E ops true l ((S.app x.2.2.2).put o.dst (gd x.1 x.2.1 x.2.2.1)) (fp++[jb ops S o x.2.2.1 x.2.2.2]) fun s f=>K (s,f)
    exact h2.symm.trans h1
  | some x =>
   obtain ⟨p,q,v,δ⟩:=x
   have QL:∀ K:St×List Fp->Option R,(gr X E ops true l (ln S ⟨o,p,q,v,δ⟩) (fp++[jb ops S o v δ]) fun s f=>K (s,f))=K (s',fp'):=by
    intro K
    have h1:=h K
    have h2:=ry fun x=>gr X E ops true l ((S.app x.2.2.2).put o.dst (gd x.1 x.2.1 x.2.2.1)) (fp++[jb ops S o x.2.2.1 x.2.2.2]) fun s f=>K (s,f)
    exact h2.symm.trans h1
   obtain ⟨rs,h1,h2,h3,h4⟩:=trace r0 hE l _ _ QL
   refine ⟨⟨o,p,q,v,δ⟩::rs,by simp [h1],fun i x hx K=> ?_,by simpa using h3,by simp [Jg,h4]⟩
   cases i with
   | zero=>simp at hx; subst hx; exact ry K
   | succ i=>exact h2 i x (by simpa using hx) K
theorem go_get {n:List Nat} {x:Fp}:∀ {m:List Fp} {i:Nat},gw.go n i m x=true->∀ (a:Nat) (y:Fp),m[a]? =some y->i+a∉n->apart y x=true
 | [],_,_,a,y,h,_=>by simp at h
 | z::m,i,hg,a,y,h,hn=>by
  simp only [gw.go,zB] at hg
  cases a with
  | zero =>
   simp at h; subst h
   have h1:=hg.1
   rw [wT (by simpa using hn)] at h1
   exact h1
  | succ a=>exact go_get hg.2 a y (by simpa using h) (by rw [show i+1+a=i+(a+1) by omega]; exact hn)
theorem v5 {A:List (List Nat)}:∀ {l done:List Fp},gw A done.length done l=true->∀ (a b:Nat) (y x:Fp),(done++l)[a]? =some y->l[b]? =some x->a<done.length+b->a∉lB A (done.length+b)->apart y x=true
 | [],done,_,a,b,y,x,_,hx,_,_=>by simp at hx
 | z::l,done,h,a,b,y,x,hy,hx,tt,hn=>by
  simp only [gw,zB] at h
  cases b with
  | zero =>
   simp at hx; subst hx
   simp only [Nat.add_zero] at tt hn
   rw [List.getElem?_append_left tt] at hy
   exact go_get h.1 a y hy (by simpa using hn)
  | succ b =>
   have hlen:(done++[z]).length=done.length+1:=by simp
   have h2:=h.2
   rw [← hlen] at h2
   exact v5 h2 a b y x (by simpa using hy) (by simpa using hx) (by rw [hlen]; omega) (by rw [hlen,show done.length+1+b=done.length+(b+1) by omega]; exact hn)
theorem R6 {acc:List (List Nat)} {k x:Nat} (h:x∈lB acc k):k<acc.length:=by
 simp only [lB,ic] at h
 rcases Nat.lt_or_ge k acc.length with hk | hk
 ·exact hk
 ·rw [List.getElem?_eq_none hk] at h; simp at h
theorem Gz {acc b:List (List Nat)} {k:Nat} (h:k<acc.length):lB (acc++b) k=lB acc k:=by
 simp only [lB,ic,List.getElem?_append_left h]
theorem F0 {x y:Nat} {l:List Nat}:x∈Sd y l->x=y\/x∈l:=by
 simp only [Sd]; split
 ·exact .inr
 ·exact fun h=>zI.1 h
theorem Dy {x:Nat}:∀ {l m:List Nat},x∈J1 l m->x∈l\/x∈m
 | [],m,h=> .inr h
 | y::l,m,h=>by
  simp only [J1] at h
  rcases F0 h with rfl | h
  ·exact .inl zO
  ·exact (Dy h).imp (zJ _) id
theorem FO {acc:List (List Nat)} {x:Nat}:∀ {es:List Nat},x∈Bb acc es->∃ e∈es,x=e\/x∈lB acc e
 | [],h=>by simp [Bb] at h
 | e::l,h=>by
  simp only [Bb] at h
  rcases F0 h with rfl | h
  ·exact ⟨x,zO,.inl rfl⟩
  ·rcases Dy h with h | h
   ·exact ⟨e,zO,.inr h⟩
   ·obtain ⟨e',h1,h2⟩:=FO h; exact ⟨e',zJ _ h1,h2⟩
theorem G5:∀ (l:List Oper) (acc:List (List Nat)),∃ b,lA acc l=acc++b
 | [],acc=>⟨[],by simp [lA]⟩
 | o::l,acc=>by
  obtain ⟨b,hb⟩:=G5 l (acc++[Bb acc (jq o.after.toList)])
  exact ⟨Bb acc (jq o.after.toList)::b,by simp [lA,hb]⟩
theorem GD:∀ {l:List Oper} {acc:List (List Nat)} {k x:Nat} {o:Oper},l[k]? =some o->x∈lB (lA acc l) (acc.length+k)->∃ e∈jq o.after.toList,x=e\/x∈lB (lA acc l) e
 | [],_,_,_,_,h,_=>by simp at h
 | z::l,acc,0,x,o,h,hx=>by
  simp at h; subst h
  obtain ⟨b,hb⟩:=G5 l (acc++[Bb acc (jq z.after.toList)])
  have hz:lB (lA acc (z::l)) acc.length=Bb acc (jq z.after.toList):=by
   simp only [lA,hb,lB,ic]; simp
  rw [Nat.add_zero,hz] at hx
  obtain ⟨e,h1,h2⟩:=FO hx
  refine ⟨e,h1,h2.imp id fun h3=> ?_⟩
  have:lA acc (z::l)=acc++([Bb acc (jq z.after.toList)]++b):=by simp [lA,hb]
  rw [this,Gz (R6 h3)]; exact h3
 | z::l,acc,k+1,x,o,h,hx=>by
  simp only [lA] at hx ⊢
  exact GD (acc:=acc++[Bb acc (jq z.after.toList)]) (by simpa using h) (by rw [zK,zL,show acc.length+1+k=acc.length+(k+1) by omega]; exact hx)
theorem C4 {A:List (List Nat)}:∀ {l:List Oper} {n:Nat},su A n l=true->∀ (i:Nat) (o:Oper),l[i]? =some o->∀ j w,o.guard=some (j,w)->j∈lB A (n+i)
 | [],_,_,i,o,h,_,_,_=>by simp at h
 | z::l,n,hg,i,o,h,j,w,ho=>by
  simp only [su,zB] at hg
  cases i with
  | zero=>simp at h; subst h; have h1:=hg.1; rw [ho] at h1; exact fg.1 h1
  | succ i=>have:=C4 hg.2 i o (by simpa using h) j w ho; rwa [show n+1+i=n+(i+1) by omega] at this
theorem qz {e:Nat}:∀ {l:List Edge},e∈jq l↔∃ d∈l,D7 d=true/\d.on=e
 | []=>by simp [jq]
 | d::l=>by
  simp only [jq]
  cases h:D7 d with
  | true=>simp only [zI,qz,exists_eq_or_imp,h,true_and]; exact ⟨fun h=>h.imp Eq.symm id,fun h=>h.imp Eq.symm id⟩
  | false=>simp [qz,h]
theorem BO (d:Edge):Region.binds .any d=D7 d:=by
 obtain ⟨on,g⟩:=d
 cases g<;>rfl
theorem u9:∀ {l:List Oper} {n:Nat},oA n l=true->∀ (i:Nat) (o:Oper),l[i]? =some o->∀ e∈jq o.after.toList,e<n+i
 | [],_,_,i,o,h,_,_=>by simp at h
 | z::l,n,hg,i,o,h,e,he=>by
  simp only [oA,zB] at hg
  cases i with
  | zero=>simp at h; subst h; exact nI.1 hg.1 e he
  | succ i=>have:=u9 hg.2 i o (by simpa using h) e he; omega
structure Xy (a b:Fp):Prop where
 wt:∀ t∈a.wt,t∉b.rt
 d1:∀ t,a.d=some t->t∉b.rt
 d2:∀ t,b.d=some t->t∉a.rt
 dd:∀ t,a.d=some t->b.d≠some t
 r1:∀ r∈a.wr,r∉b.rr
 r2:∀ r∈a.wr,r∉b.wr
 r3:∀ r∈a.rr,r∉b.wr
 v1:∀ r∈a.wv,r∉b.rv
 v2:∀ r∈a.wv,r∉b.wv
 v3:∀ r∈a.rv,r∉b.wv
 k1:∀ r∈a.kw,r∉b.pm
 k2:∀ r∈a.pm,r∉b.kw
theorem DQ {a:Option Nat} {l:List Nat} (h:JV a l=true):∀ t,a=some t->t∉l:=by
 intro t ht
 subst ht
 intro hm
 simp only [JV,fg.2 hm] at h
 cases h
theorem apart_spec {a b:Fp} (h:apart a b=true):Xy a b:=by
 simp only [apart,zB] at h
 obtain ⟨h0,h1,h2,h3,h4,h5,h6,h7,h8,h9,h10,h11⟩:=h
 refine ⟨eI.1 h0,DQ h1,DQ h2,fun t ha hb=> ?_,eI.1 h4,eI.1 h5,eI.1 h6,eI.1 h7,eI.1 h8,eI.1 h9,eI.1 h10,eI.1 h11⟩
 rw [ha,hb] at h3
 simp only [Nat.beq_refl] at h3
 cases h3
theorem JP {Rs V:List Nat}:∀ {l:List (Nat×AV)} {t:Nat} {v:AV},t∉Ph Rs V l->lk l t=some v->Mt Rs V v.CJ
 | [],_,_,_,h=>by cases h
 | (k,u)::l,t,v,hn,h=>by
  simp only [Ph] at hn
  simp only [lk] at h
  cases hk:Nat.beq k t with
  | true =>
   simp only [hk,zA] at h
   have:=aG hk; subst this; subst h
   revert hn; split
   ·rename_i h1 h2
    intro _
    exact ⟨fun r hr hm=>(by rw [sZ.2 ⟨r,hr,hm⟩] at h1; cases h1),fun r hr hm=>(by rw [sZ.2 ⟨r,hr,hm⟩] at h2; cases h2)⟩
   ·intro hn; exact absurd zO hn
  | false =>
   simp only [hk] at h
   refine JP (l:=l) ?_ h
   revert hn; split
   ·exact id
   ·intro hn hm; exact hn (zJ _ hm)
theorem JF {Rs V:List Nat}:∀ {l:List (Nat×List Cv)} {t:Nat} {v:List Cv},t∉Pb Rs V l->lk l t=some v->Mt Rs V v
 | [],_,_,_,h=>by cases h
 | (k,u)::l,t,v,hn,h=>by
  simp only [Pb] at hn
  simp only [lk] at h
  cases hk:Nat.beq k t with
  | true =>
   simp only [hk,zA] at h
   have:=aG hk; subst this; subst h
   revert hn; split
   ·rename_i h1 h2
    intro _
    exact ⟨fun r hr hm=>(by rw [sZ.2 ⟨r,hr,hm⟩] at h1; cases h1),fun r hr hm=>(by rw [sZ.2 ⟨r,hr,hm⟩] at h2; cases h2)⟩
   ·intro hn; exact absurd zO hn
  | false =>
   simp only [hk] at h
   refine JF (l:=l) ?_ h
   revert hn; split
   ·exact id
   ·intro hn hm; exact hn (zJ _ hm)
theorem DV (h:δ.quiet=true) (l:List Cv):Mt δ.j6 δ.kv l:=by
 obtain ⟨mv,kr,ke,kn,kv,rs,vs⟩:=δ
 have:mv=[]/\kr=[]/\ke=[]/\kn=[]/\kv=[]:=by
  revert h; simp only [Dl.quiet]; split<;>simp_all
 obtain ⟨rfl,rfl,rfl,rfl,rfl⟩:=this
 exact ⟨fun r _ hm=>by simp [Dl.j6,keys] at hm,fun r _ hm=>by simp at hm⟩
theorem L8.ahead {A B:St} {x y:Rec} (h:Xy (jb ops A x.o x.v x.δ) (jb ops B y.o y.v y.δ)) :
  L8 (QY ops y.o) (Uz (xd ops B y.o)) (Up B (xd ops B y.o)) A x:=by
 have wt:∀ t∈QY ops y.o,∀ v,lk A.tm t=some v->Mt x.δ.j6 x.δ.kv v.CJ:=by
  intro t ht v hv
  cases hq:x.δ.quiet with
  | true=>exact DV hq _
  | false =>
   refine JP (fun hm=>h.wt t ?_ ht) hv
   simp only [jb,hq]; exact hm
 have wv:∀ k∈Uz (xd ops B y.o),∀ cs,A.lk.v k=some cs->Mt x.δ.j6 x.δ.kv cs:=by
  intro k hk cs hc
  cases hq:x.δ.quiet with
  | true=>exact DV hq _
  | false =>
   refine JF (fun hm=>h.v1 k ?_ hk) hc
   simp only [jb,hq,zH]; exact .inr (.inl hm)
 refine ⟨fun t ht hd=>h.d1 t hd ht,wt,fun k hk hm=>h.v1 k ?_ hk,wv,fun k hk hm=>h.r1 k ?_ ?_⟩
 ·simp only [jb,zH]; exact .inr (.inr hm)
 ·simp only [jb,zH]; exact .inr (.inr hm)
 ·simp only [jb,zH]; exact .inr (.inl hk)
theorem FP {o:Oper} {t:Nat} {v:AV} (ht:t∈QY ops o) (hv:lk S.tm t=some v):v∈F7 ops S o:=by
 simp only [F7,wj]
 exact List.mem_map.2 ⟨t,ht,by simp only [St.get,hv]⟩
theorem N6 {l:List AV} {v:AV} {r:Nat} (hv:v∈l) (hr:r∈va v.CJ):r∈I2 l:=by
 induction l with
 | nil=>cases hv
 | cons x l ih=>simp only [I2,zH]; rcases zI.1 hv with rfl | hv; exact .inl hr; exact .inr (ih hv)
theorem NS {l:List AV} {v:AV} {r:Nat} (hv:v∈l) (hr:r∈vF v.CJ):r∈HZ l:=by
 induction l with
 | nil=>cases hv
 | cons x l ih=>simp only [HZ,zH]; rcases zI.1 hv with rfl | hv; exact .inl hr; exact .inr (ih hv)
theorem IW {l:List Nat} {k r:Nat} {cs:List Cv} (hk:k∈l) (hc:m.v k=some cs) (hr:r∈va cs):r∈m.rowsOf l:=by
 induction l with
 | nil=>cases hk
 | cons x l ih=>simp only [Lk.rowsOf,zH]; rcases zI.1 hk with rfl | hk; exact .inl (by rw [hc]; exact hr); exact .inr (ih hk)
theorem H7 {l:List Nat} {k r:Nat} {cs:List Cv} (hk:k∈l) (hc:m.v k=some cs) (hr:r∈vF cs):r∈m.varsOf l:=by
 induction l with
 | nil=>cases hk
 | cons x l ih=>simp only [Lk.varsOf,zH]; rcases zI.1 hk with rfl | hk; exact .inl (by rw [hc]; exact hr); exact .inr (ih hk)
theorem L8.behind {A B:St} {x y:Rec} (h:Xy (jb ops B y.o y.v y.δ) (jb ops A x.o x.v x.δ)) :
  L8 (QY ops y.o) (Uz (xd ops B y.o)) (Up B (xd ops B y.o)) B x:=by
 have kw:∀ r∈x.δ.j6,r∈(jb ops A x.o x.v x.δ).wr:=fun r hr=>by simp only [jb,zH]; exact .inr (.inl hr)
 refine ⟨fun t ht hd=>h.d2 t hd ht,fun t ht v hv=>⟨fun r hr hm=>h.r3 r ?_ (kw r hm),fun k hk hm=>h.k2 k ?_ hm⟩,fun k hk hm=>h.v3 k hk ?_,fun k hk cs hc=>⟨fun r hr hm=>h.r3 r ?_ (kw r hm),fun r hr hm=>h.k2 r ?_ hm⟩,fun k hk hm=>h.r3 k ?_ ?_⟩
 ·simp only [jb,zH]; exact .inl (N6 (FP ht hv) hr)
 ·simp only [jb,zH]; exact .inl (NS (FP ht hv) hk)
 ·simp only [jb,zH]; exact .inr (.inr hm)
 ·simp only [jb,Up,zH]; exact .inr (.inl (.inr (IW hk hc hr)))
 ·simp only [jb,zH]; exact .inr (.inl (H7 hk hc hr))
 ·simp only [jb,zH]; exact .inr (.inl hk)
 ·simp only [jb,zH]; exact .inr (.inr hm)
theorem XC.of {A B:St} {x y:Rec} (h:Xy (jb ops A x.o x.v x.δ) (jb ops B y.o y.v y.δ)):XC x y:=by
 have wr:∀ (A:St) (x:Rec),∀ r∈x.wr,r∈(jb ops A x.o x.v x.δ).wr:=fun A x r hr=>hr
 have wv:∀ (A:St) (x:Rec),∀ r∈x.wv,r∈(jb ops A x.o x.v x.δ).wv:=fun A x r hr=>by
  simp only [jb,Rec.wv,zH] at hr ⊢
  exact hr.imp id .inr
 have ro:∀ (A:St) (x:Rec),∀ r∈x.ro,r∈(jb ops A x.o x.v x.δ).rr:=fun A x r hr=>by
  simp only [jb,Rec.ro,zH] at hr ⊢
  exact .inr (.inr hr)
 have vo:∀ (A:St) (x:Rec),∀ r∈x.vo,r∈(jb ops A x.o x.v x.δ).pm:=fun A x r hr=>by
  simp only [jb,Rec.vo,zH] at hr ⊢
  exact .inr (.inr hr)
 exact ⟨h.dd,fun r hr hm=>h.r2 r (wr A x r hr) (wr B y r hm),fun r hr hm=>h.v2 r (wv A x r hr) (wv B y r hm),fun r hr hm=>h.r1 r (wr A x r hr) (ro B y r hm),fun r hr hm=>h.k1 r hr (vo B y r hm),
  fun r hr hm=>h.r3 r (ro A x r hm) (wr B y r hr),fun r hr hm=>h.k2 r (vo A x r hm) hr⟩
variable {e0:Lk} {γ0:Gh} {w0:World}
def tg (L:Nat->Bool):Nat->List Oper->List Nat
 | _,[]=>[]
 | n,o::l=>(bif L n then (match o.dst with | some d=>[d] | none=>[]) else [])++tg L (n+1) l
theorem mc {L:Nat->Bool} {t:Nat}:∀ {l:List Oper} {n:Nat},t∈tg L n l↔∃ (k:Nat) (o:Oper),l[k]? =some o/\L (n+k)=true/\o.dst=some t
 | [],n=>by simp [tg]
 | o::l,n=>by
  simp only [tg,zH,mc (l:=l)]
  constructor
  ·rintro (h | ⟨k,o',h1,h2,h3⟩)
   ·cases hL:L n with
    | false=>rw [hL] at h; simp at h
    | true =>
     rw [hL] at h
     cases ho:o.dst with
     | none=>rw [ho] at h; simp at h
     | some d=>rw [ho] at h; simp at h; exact ⟨0,o,rfl,by simpa using hL,by rw [ho,h]⟩
   ·exact ⟨k+1,o',by simpa using h1,by rw [← h2]; congr 1; omega,h3⟩
  ·rintro ⟨k,o',h1,h2,h3⟩
   cases k with
   | zero=>simp at h1; subst h1; rw [Nat.add_zero] at h2; rw [h2,h3]; exact .inl (by simp)
   | succ k=>exact .inr ⟨k,o',by simpa using h1,by rw [← h2]; congr 1; omega,h3⟩
theorem Ha:∀ {l:List Oper},(lb l).Nodup->∀ (i j:Nat) (a b:Oper) (t:Nat),l[i]? =some a->l[j]? =some b->a.dst=some t->b.dst=some t->i=j
 | [],_,i,_,_,_,_,h,_,_,_=>by simp at h
 | o::l,hn,i,j,a,b,t,hi,hj,ha,hb=>by
  have Nc:(lb l).Nodup:=by
   simp only [lb] at hn
   cases ho:o.dst with
   | none=>rwa [ho] at hn
   | some d=>rw [ho] at hn; exact (List.nodup_cons.1 hn).2
  have CU:∀ {k:Nat} {x:Oper},o.dst=some t->l[k]? =some x->x.dst=some t->False:=by
   intro k x ho hx hxt
   simp only [lb,ho] at hn
   exact (List.nodup_cons.1 hn).1 (sI.2 ⟨x,List.mem_of_getElem? hx,hxt⟩)
  cases i with
  | zero =>
   simp at hi; subst hi
   cases j with
   | zero=>rfl
   | succ j=>exact (CU ha (by simpa using hj) hb).elim
  | succ i =>
   cases j with
   | zero=>simp at hj; subst hj; exact (CU hb (by simpa using hi) ha).elim
   | succ j=>rw [Ha Nc i j a b t (by simpa using hi) (by simpa using hj) ha hb]
theorem RZ (r0:R) (hX:iy X) (hE:sM X E) {a:Act} {w:World} (hr:Oq X ops) {s':St} {fp':List Fp} (hK:∀ K:St×List Fp->Option R,(gr X E ops true ops.toList S [] fun s f=>K (s,f))=K (s',fp'))
  (MX:oA 0 ops.toList=true) (hga:su (lA [] ops.toList) 0 ops.toList=true) (la:gw (lA [] ops.toList) 0 [] fp'=true)
  (Zf:pA S) (hI:Inv X e0 γ0 w0 S γ a w)
  {Q:Exit->Act->World->Prop} (hQ:∀ γ' a' w',Inv X e0 γ0 w0 s' γ' a' w'->Q .normal a' w') :
  wpAny X.P .any ops Q ops.size (Array.replicate ops.size false) a w:=by
 obtain ⟨rs,MV,htr,rfl,rfl⟩:=trace r0 hE.FA _ _ _ hK
 have hlen:rs.length=ops.size:=by have:=congrArg List.length MV; simpa using this
 have rY:∀ (i:Nat) (x:Rec),rs[i]? =some x->ops[i]? =some x.o:=by
  intro i x hx
  have:(rs.map (·.o))[i]? =some x.o:=by rw [List.getElem?_map,hx]; rfl
  rw [MV] at this; simpa using this
 have hro:∀ (i:Nat) (o:Oper),ops[i]? =some o->∃ x,rs[i]? =some x/\x.o=o:=by
  intro i o ho
  have:(rs.map (·.o))[i]? =some o:=by rw [MV]; simpa using ho
  rw [List.getElem?_map] at this
  cases hx:rs[i]? with
  | none=>rw [hx] at this; cases this
  | some x=>rw [hx] at this; simp at this; exact ⟨x,rfl,this⟩
 let A:=lA [] ops.toList
 have ML:∀ (i j:Nat) (x y:Rec),rs[i]? =some x->rs[j]? =some y->i<j->i∉lB A j->Xy (jb ops (HI S rs i) x.o x.v x.δ) (jb ops (HI S rs j) y.o y.v y.δ):=by
  intro i j x y hx hy Tj hn
  have h0:gw A (List.length ([]:List Fp)) [] (Jg ops S rs)=true:=by simpa using la
  exact apart_spec (v5 h0 i j _ _ (by simpa using B6 rs S i x hx) (B6 rs S j y hy) (by simpa using Tj) (by simpa using hn))
 have hA:∀ (j x:Nat) (o:Oper),ops[j]? =some o->x∈lB A j->∃ e∈jq o.after.toList,x=e\/x∈lB A e:=by
  intro j x o ho hx
  exact GD (l:=ops.toList) (acc:=[]) (k:=j) (by simpa using ho) (by simpa using hx)
 have main:∀ (fuel:Nat) (listed:Array Bool) (γ:Gh) (a:Act) (w:World),listed.size=ops.size->((List.range ops.size).filter fun k=> !listed.getD k true).length<=fuel ->
   (∀ j,listed.getD j true=true->j<ops.size->∀ x∈lB A j,listed.getD x true=true) ->
   Inv X e0 γ0 w0 (rS (fun k=>listed.getD k true) 0 S rs) γ a w->yg (tg (fun k=>listed.getD k true) 0 ops.toList) (rS (fun k=>listed.getD k true) 0 S rs) a ->
   wpAny X.P .any ops Q fuel listed a w:=by
  intro fuel
  induction fuel with
  | zero =>
   intro listed γ a w mi hU hC hI hG
   have SF:∀ k,k<ops.size->listed.getD k true=true:=by
    intro k hk
    have Vl:(List.range ops.size).filter (fun k=> !listed.getD k true)=[]:=List.length_eq_zero_iff.1 (Nat.le_zero.1 hU)
    have:=List.filter_eq_nil_iff.1 Vl k (List.mem_range.2 hk)
    simpa using this
   refine ⟨List.eq_nil_iff_forall_not_mem.2 fun j hj=> ?_,hQ γ a w ?_⟩
   ·obtain ⟨h1,o,ho,_⟩:=mem_ready.1 hj
    rw [SF j (Array.getElem?_eq_some_iff.1 ho).1] at h1; cases h1
   ·rw [← Ej (L:=fun k=>listed.getD k true) rs 0 S fun k _ hk=>SF k (by omega)]; exact hI
  | succ fuel ih =>
   intro listed γ a w mi hU hC hI hG
   refine ⟨fun Vl=>hQ γ a w ?_,fun i hi=> ?_⟩
   ·have SF:∀ n,∀ k,k<n->k<ops.size->listed.getD k true=true:=by
     intro n
     induction n with
     | zero=>intro k hk; omega
     | succ n ihn =>
      intro k hk hks
      rcases Nat.lt_or_ge k n with h | h
      ·exact ihn k h hks
      ·have Fv:k=n:=by omega
       subst Fv
       cases hl:listed.getD k true with
       | true=>rfl
       | false =>
        exfalso
        have:k∈Region.ready .any ops listed:=by
         refine mem_ready.2 ⟨hl,ops[k],Array.getElem?_eq_getElem hks,fun e he hb=> ?_⟩
         have hm:e.on∈jq (ops[k]).after.toList:=qz.2 ⟨e,by simpa using he,by rw [← BO]; exact hb,rfl⟩
         have fM:=u9 MX k ops[k] (by simp [hks]) e.on hm
         rw [Nat.zero_add] at fM
         have:=ihn e.on fM (by omega)
         have SY:e.on<listed.size:=by omega
         rw [Array.getD_eq_getD_getElem?,Array.getElem?_eq_getElem SY] at this ⊢
         exact this
        rw [Vl] at this; cases this
    rw [← Ej (L:=fun k=>listed.getD k true) rs 0 S fun k _ hk=>SF ops.size k (by omega) (by omega)]; exact hI
   ·obtain ⟨FF,o,ho,Yh⟩:=mem_ready.1 hi
    have his:i<ops.size:=(Array.getElem?_eq_some_iff.1 ho).1
    obtain ⟨x,hx,hxo⟩:=hro i o ho
    subst hxo
    let L:Nat->Bool:=fun k=>listed.getD k true
    have hLi:L i=false:=FF
    have VD:∀ y∈lB A i,L y=true:=by
     intro y hy
     obtain ⟨e,he,VM⟩:=hA i y x.o ho hy
     obtain ⟨d,hd,hb,rfl⟩:=qz.1 he
     have VE:=Yh d (by simpa using hd) (by rw [BO]; exact hb)
     have fM:d.on<i:=by have:=u9 MX i x.o (by simpa using ho) d.on he; omega
     have SY:d.on<listed.size:=by omega
     have Yx:listed.getD d.on true=true:=by
      rw [Array.getD_eq_getD_getElem?,Array.getElem?_eq_getElem SY] at VE ⊢; exact VE
     rcases VM with rfl | VM
     ·exact Yx
     ·exact hC d.on Yx (by omega) y VM
    let T:=rS L 0 S rs
    let S':=(HI S rs i).cut ops x.o
    have B9:rs=rs.take i++x::rs.drop (i+1):=by
     have tw:i<rs.length:=by omega
     have:rs.drop i=x::rs.drop (i+1):=by
      rw [List.drop_eq_getElem_cons tw]
      congr 1
      have:=List.getElem?_eq_getElem tw
      rw [hx] at this; exact (Option.some.inj this).symm
     rw [← this,List.take_append_drop]
    have SK:(rs.take i).length=i:=by simp; omega
    have V0:Fz (QY ops x.o) (Uz (xd ops (HI S rs i) x.o)) (Up (HI S rs i) (xd ops (HI S rs i) x.o)) (HI S rs i) T:=by
     show Fz _ _ _ _ (rS L 0 S rs)
     rw [B9,qZ,SK]
     simp only [Nat.zero_add,rS,hLi,zF]
     rw [← B9]
     refine KF L _ _ _ _ (Kh L (rs.take i) 0 S S ⟨fun _ _=>rfl,fun _ _=>rfl,fun _ _=>rfl⟩ fun k y hk hL=> ?_) fun k y hk hL=> ?_
     ·have Jv:k<i:=by have:=(zU.1 hk).1; omega
      have r9:rs[k]? =some y:=by rw [List.getElem?_take,if_pos Jv] at hk; exact hk
      rw [Nat.zero_add] at hL
      have hn:k∉lB A i:=fun hm=>by have:=VD k hm; rw [hL] at this; cases this
      have:=L8.ahead (ML k i y x r9 hx Jv hn)
      rw [List.take_take,Nat.min_eq_left (Nat.le_of_lt Jv)]
      exact this
     ·have r9:rs[i+1+k]? =some y:=by rw [List.getElem?_drop] at hk; exact hk
      have fM:i+1+k<ops.size:=by have:=(zU.1 r9).1; omega
      have hn:i∉lB A (i+1+k):=fun hm=>by have:=hC (i+1+k) hL fM i hm; rw [FF] at this; cases this
      exact L8.behind (ML i (i+1+k) x y hx r9 (by omega) hn)
    have hm:Le S'.lk T.lk:=by
     refine ⟨fun k row hk=> ?_,fun k cs hk=> ?_⟩
     ·have hk:lk (Bp (Up (HI S rs i) (xd ops (HI S rs i) x.o)) (HI S rs i).rs) k=some row:=hk
      rw [EI] at hk
      split at hk
      ·rename_i eF; rw [← V0.r k eF]; exact hk
      ·cases hk
     ·have hk:lk (Bp (Uz (xd ops (HI S rs i) x.o)) (HI S rs i).vs) k=some cs:=hk
      rw [EI] at hk
      split at hk
      ·rename_i eF; rw [← V0.v k eF]; exact hk
      ·cases hk
    have ht:∀ t av,lk S'.tm t=some av->lk T.tm t=some av:=by
     intro t av hk
     have hk:lk (Bp (QY ops x.o) (HI S rs i).tm) t=some av:=hk
     rw [EI] at hk
     split at hk
     ·rename_i eF; rw [← V0.t t eF]; exact hk
     ·cases hk
    have hol:ops.toList[i]? =some x.o:=by simpa using ho
    have Ck:∀ d,x.o.dst=some d->d<X.nt:=fun d hd=>hr.lt d (sI.2 ⟨x.o,List.mem_of_getElem? hol,hd⟩)
    have HE:∀ j w,x.o.guard=some (j,w)->∀ oj t,ops[j]? =some oj->oj.dst=some t->t∈tg L 0 ops.toList:=by
     intro j w hg oj t hj ht
     have hm:=C4 hga i x.o hol j w hg
     rw [Nat.zero_add] at hm
     exact mc.2 ⟨j,oj,by simpa using hj,by rw [Nat.zero_add]; exact VD j hm,ht⟩
    have hdn:∀ d,x.o.dst=some d->d∉tg L 0 ops.toList:=by
     intro d hd eF
     obtain ⟨k,ok,h1,h2,h3⟩:=mc.1 eF
     have:=Ha hr.nd k i ok x.o d h1 hol h3 hd
     subst this
     rw [Nat.zero_add,hLi] at h2; cases h2
    let listed':=listed.setIfInBounds i true
    have HD:∀ k,listed'.getD k true=(L k||Nat.beq k i):=by
     intro k
     by_cases Jv:i=k
     ·subst Jv
      have:i<listed.size:=by omega
      have hb:Nat.beq i i=true:=Nat.beq_refl i
      rw [hb,Bool.or_true]
      show (listed.setIfInBounds i true).getD i true=true
      simp [this]
     ·have hb:Nat.beq k i=false:=by cases h:Nat.beq k i; rfl; exact absurd (aG h).symm Jv
      rw [hb,Bool.or_false]
      exact getD_set_ne true Jv
    have hEq:Cy (ln T x) (rS (fun k=>listed'.getD k true) 0 S rs):=by
     have No:∀ k,k≠i->L k=listed'.getD k true:=by
      intro k hk
      have hb:Nat.beq k i=false:=by cases h:Nat.beq k i; rfl; exact absurd (aG h) hk
      rw [HD,hb,Bool.or_false]
     have e1:rS (fun k=>listed'.getD k true) 0 S rs=rS L (i+1) (ln (rS L 0 S (rs.take i)) x) (rs.drop (i+1)):=by
      rw [B9,qZ,SK]
      simp only [Nat.zero_add,rS]
      rw [← B9,HD i,Nat.beq_refl,Bool.or_true,zE]
      rw [xF (L:=fun k=>listed'.getD k true) (L':=L) (rs.drop (i+1)) (i+1) _ fun k h1 _=>(No k (by omega)).symm]
      rw [xF (L:=fun k=>listed'.getD k true) (L':=L) (rs.take i) 0 S fun k _ h2=>(No k (by rw [SK] at h2; omega)).symm]
     have e2:T=rS L (i+1) (rS L 0 S (rs.take i)) (rs.drop (i+1)):=by
      show rS L 0 S rs=_
      conv=>lhs; rw [B9]
      rw [qZ,SK]
      simp only [Nat.zero_add,rS,hLi,zF]
     rw [e1,e2]
     refine (Hl L x (rs.drop (i+1)) (i+1) _ fun k y hk hL=> ?_).symm
     have r9:rs[i+1+k]? =some y:=by rw [List.getElem?_drop] at hk; exact hk
     have fM:i+1+k<ops.size:=by have:=(zU.1 r9).1; omega
     have hn:i∉lB A (i+1+k):=fun hm=>by have:=hC (i+1+k) hL fM i hm; rw [FF] at this; cases this
     exact XC.of (ML i (i+1+k) x y hx r9 (by omega) hn)
    have hU':((List.range ops.size).filter fun k=> !listed'.getD k true).length<=fuel:=by
     have h1:((List.range ops.size).filter fun k=> !listed'.getD k true)=((List.range ops.size).filter fun k=> !listed.getD k true).filter fun k=> !Nat.beq k i:=by
      rw [List.filter_filter]
      refine List.filter_congr fun k _=> ?_
      rw [HD]
      show (!(listed.getD k true||Nat.beq k i))=_
      cases listed.getD k true<;>cases Nat.beq k i<;>rfl
     rw [h1]
     have eF:i∈(List.range ops.size).filter fun k=> !listed.getD k true:=List.mem_filter.2 ⟨List.mem_range.2 his,by rw [FF]; rfl⟩
     have:=List.length_filter_lt_length_iff_exists (l:=(List.range ops.size).filter fun k=> !listed.getD k true) (p:=fun k=> !Nat.beq k i) |>.2 ⟨i,eF,by simp [Nat.beq_refl]⟩
     omega
    have hC':∀ j,listed'.getD j true=true->j<ops.size->∀ y∈lB A j,listed'.getD y true=true:=by
     intro j hj VJ y hy
     rw [HD] at hj ⊢
     by_cases Y8:j=i
     ·subst Y8; rw [VD y hy]; rfl
     ·have hb:Nat.beq j i=false:=by cases h:Nat.beq j i; rfl; exact absurd (aG h) Y8
      rw [hb,Bool.or_false] at hj
      have:=hC j hj VJ y hy
      show (listed.getD y true||Nat.beq y i)=true
      rw [this]; rfl
    have Vs:=Ky r0 hX hE hI.rel hI.top hI.tmp hG hm ht hr.nt Ck HE (v:=x.v) (δ:=x.δ) (p:=x.p) (q:=x.q) (fun K=>htr i x hx K) (next:=fun _ _=>True) (Q:=Q) (fun _ _ _ _ _=>trivial)
    have hgp:=Vs.1
    have xq:=(Ky r0 hX hE hI.rel hI.top hI.tmp hG hm ht hr.nt Ck HE (v:=x.v) (δ:=x.δ) (p:=x.p) (q:=x.q) (fun K=>htr i x hx K) (next:=wpAny X.P .any ops Q fuel listed') (Q:=Q) fun γ' w' u pS hu=>by
     refine ih listed' γ' (a.put x.o.dst u) w' (by simp [listed',mi]) hU' hC' ((hI.step pS Ck hu).eqv hEq) ?_
     refine yg.eqv ?_ hEq
     refine hG.step (fun t ht=> ?_) (fun d hd=>⟨hdn d hd,Nat.lt_of_lt_of_le (Ck d hd) hI.tmp.1⟩) hgp
     obtain ⟨k,ok,h1,h2,h3⟩:=mc.1 ht
     refine mc.2 ⟨k,ok,h1,?_,h3⟩
     rw [Nat.zero_add] at h2 ⊢
     rw [HD]
     show (listed.getD k true||Nat.beq k i)=true
     rw [h2]; rfl).2
    simp only [wpOp,ho]
    cases hw:Region.wanted x.o (yielded ops a.tmps) with
    | true=>rw [hw] at xq; simp only [if_true] at xq ⊢; exact .inl xq
    | false=>rw [hw] at xq; simpa using xq
 have hL0:∀ k,k<ops.size->(Array.replicate ops.size false).getD k true=false:=by
  intro k hk; simp [hk]
 have e0':rS (fun k=>(Array.replicate ops.size false).getD k true) 0 S rs=S:=FY rs 0 S fun k _ hk=>hL0 k (by omega)
 refine main ops.size (Array.replicate ops.size false) γ a w (by simp) (Nat.le_trans (List.length_filter_le _ _) (by simp)) (fun j hj VJ=>by rw [hL0 j VJ] at hj; cases hj) (by rw [e0']; exact hI) ?_
 rw [e0']
 have hd0:tg (fun k=>(Array.replicate ops.size false).getD k true) 0 ops.toList=[]:=by
  refine List.eq_nil_iff_forall_not_mem.2 fun t ht=> ?_
  obtain ⟨k,o,h1,h2,_⟩:=mc.1 ht
  have:k<ops.size:=by have:=(zU.1 h1).1; simpa using this
  rw [Nat.zero_add,hL0 k this] at h2; cases h2
 rw [hd0]
 exact vA Zf
end
end Go.Soft
namespace Go.Soft
open Go
variable {X:Ctx} {m M:Lk} {γ γ':Gh} {w w':World} {ρ:Operand->Value} {S T:St} {δ δ':Dl}
section
variable {R:Type} {E:Env R} {ops:Array Oper} {e0:Lk} {γ0:Gh} {w0:World} {a:Act}
theorem Inv.drawn (h:Inv X e0 γ0 w0 S γ a w) (n:Nat):Inv X e0 γ0 w0 S γ a { w with drawn:=n }:=by
 refine ⟨⟨h.rel.vs,fun k row hk=>Hh (h.rel.rs k row hk) fun g o hg _=>⟨hg,rfl⟩⟩,h.top,h.tmp,h.df,⟨h.fr.os,h.fr.tape,h.fr.output,h.fr.size,h.fr.oR,h.fr.top⟩,h.i3,h.i4,h.i2⟩
def aas (ops:Array Oper) (draw:Bool) (K:St->Option R) (x:St×List Fp):Option R:=match draw with
 | false=>K ⟨iV x.1.tm,x.1.vs,x.1.rs⟩
 | true=>match oA 0 ops.toList&&(su (lA [] ops.toList) 0 ops.toList&&gw (lA [] ops.toList) 0 [] x.2) with
  | true=>K ⟨iV x.1.tm,x.1.vs,x.1.rs⟩
  | false=>Option.none
theorem UZ (r0:R) (hX:iy X) (hE:sM X E) {id:Nat} {draw:Bool} {s':St} (hK:∀ K:St->Option R,wO X E ops draw S K=K s') (Zf:pA S) (hI:Inv X e0 γ0 w0 S γ a w)
  {Q:Exit->Act->World->Prop} (hQ:pA s'->∀ γ' a' w',Inv X e0 γ0 w0 s' γ' a' w'->Q .normal a' w'):(Code.region id ops draw).wp X.P Q a w:=by
 simp only [wO] at hK
 cases hc:fv (lb ops.toList)&&(sL X.nt (lb ops.toList)&&(Nat.ble X.nt 1500&&L4 0 ops.toList)) with
 | false=>simp only [hc] at hK; exact (bM r0 hK).elim
 | true =>
  simp only [hc] at hK
  have hr:=WZ hc
  obtain ⟨oc,ry⟩:=mK (X:=X) hE.FA ops draw ops.toList S []
  cases oc with
  | none =>
   refine False.elim (bM r0 (α:=St) (y:=s') fun K=> ?_)
   have h1:=hK K
   have h2:=ry (aas ops draw K)
   exact h2.symm.trans h1
  | some x =>
   obtain ⟨s1,fp1⟩:=x
   have hKs:∀ K:St×List Fp->Option R,(gr X E ops draw ops.toList S [] fun s f=>K (s,f))=K (s1,fp1):=fun K=>ry K
   cases draw with
   | false =>
    have hs:s'=⟨iV s1.tm,s1.vs,s1.rs⟩:=(iU r0 fun K=>(by
     have h1:=hK K
     have h2:=ry fun x=>K ⟨iV x.1.tm,x.1.vs,x.1.rs⟩
     exact h1.symm.trans h2))
    refine wp_region ?_
    have:=Nw r0 hX hE hr (Q:=Q) (s':=s1) (fp':=fp1) (fun γ' a' w' KP=>hQ (hs▸AO s1) γ' a' w' (hs▸KP.drop)) ops.toList [] S γ a w [] (by simp) hI (vA Zf) hKs
    rw [List.range_eq_range']
    simpa using this
   | true =>
    have hs:(oA 0 ops.toList&&(su (lA [] ops.toList) 0 ops.toList&&gw (lA [] ops.toList) 0 [] fp1))=true/\s'=⟨iV s1.tm,s1.vs,s1.rs⟩:=by
     cases eL:oA 0 ops.toList&&(su (lA [] ops.toList) 0 ops.toList&&gw (lA [] ops.toList) 0 [] fp1) with
     | false =>
      refine False.elim (bM r0 (α:=St) (y:=s') fun K=> ?_)
      have h1:=hK K
      have h2:=ry fun x=>match oA 0 ops.toList&&(su (lA [] ops.toList) 0 ops.toList&&gw (lA [] ops.toList) 0 [] x.2) with
       | true=>K ⟨iV x.1.tm,x.1.vs,x.1.rs⟩
       | false=>Option.none
      have h3:=h2.symm.trans h1
      simp only [Option.bind_some,eL] at h3
      exact h3
     | true =>
      refine ⟨rfl,iU r0 fun K=> ?_⟩
      have h1:=hK K
      have h2:=ry fun x=>match oA 0 ops.toList&&(su (lA [] ops.toList) 0 ops.toList&&gw (lA [] ops.toList) 0 [] x.2) with
       | true=>K ⟨iV x.1.tm,x.1.vs,x.1.rs⟩
       | false=>Option.none
      have h3:=h1.symm.trans h2
      simp only [Option.bind_some,eL] at h3
      exact h3
    obtain ⟨eL,hs⟩:=hs
    simp only [zB] at eL
    exact wp_region_any hX.mixed (RZ r0 hX hE hr hKs eL.1 eL.2.1 eL.2.2 Zf (hI.drawn _) fun γ' a' w' KP=>hQ (hs▸AO s1) γ' a' w' (hs▸KP.drop))
end
structure B1 (X:Ctx) (γ0:Gh) (w0:World) (S:St) (γ:Gh) (a:Act) (w:World):Prop where
 rel:Rel X S.lk γ w
 top:∀ g,w.heap.size<=g->γ.O g=none
 tmp:EC X S γ a
 df:a.defers=[]
 fr:Fr γ0.O w0 γ.O w
 i4:∀ k,200000<=k->k<300000->γ.rv k=γ0.rv k
 i2:∀ k,k<1000->γ.vb k=γ0.vb k
def I3 (e0:Lk) (γ0:Gh) (S:St) (γ:Gh):Prop:=∀ k row,100000<=k->k<400000->S.lk.r k=some row->row.ow=1->e0.r k=some row/\γ.rv k=γ0.rv k/\γ.cv k=γ0.cv k
theorem Inv.R2 {e0:Lk} {γ0:Gh} {w0:World} {a:Act} (h:Inv X e0 γ0 w0 S γ a w):B1 X γ0 w0 S γ a w:=⟨h.rel,h.top,h.tmp,h.df,h.fr,h.i4,h.i2⟩
theorem B1.inv {e0:Lk} {γ0:Gh} {w0:World} {a:Act} (h:B1 X γ0 w0 S γ a w) (h3:I3 e0 γ0 S γ):Inv X e0 γ0 w0 S γ a w:=⟨h.rel,h.top,h.tmp,h.df,h.fr,h3,h.i4,h.i2⟩
theorem HT {γ0:Gh} {w0:World} {a:Act} (h:B1 X γ0 w0 S γ a w):B1 X γ0 w0 ⟨[],[],[]⟩ γ a w :=
 ⟨⟨fun k cs hk=>(by cases hk),fun k row hk=>(by cases hk)⟩,h.top,⟨h.tmp.1,fun t av ht=>(by cases ht)⟩,h.df,h.fr,h.i4,h.i2⟩
theorem cP.Oa {a:Rb} {O O':OM} {r k d:Nat} {row:Row} {v:Value} {cs:List Value} (h:cP X O w r row v cs) (ha:ej row.ow=true->a.r r=some (k,d)) (hle:nF d row.ow=true\/(d=row.ow/\ej row.ow=false/\row.ow≠3))
  (hb:∀ g o,w.heap[g]? =some o->Q6 r row.ow (O g)->w'.heap[g]? =some o/\O' g=(O g).bind a.f):cP X O' w' k { row with ow:=d } v cs:=by
 rcases hle with hle | ⟨rfl,ho,h3⟩
 ·exact h.relabel ha hle hb
 ·obtain ⟨τ,xs,ow⟩:=row
  simp only at ho h3 ⊢
  have aca:ow≠4/\ow≠5:=by constructor<;>(rintro rfl; simp [ej] at ho)
  have tc:∀ k,dO k ow= .mT:=by
   intro k; simp only [dO,ho]
   try (split<;>first | exact absurd rfl h3 | rfl)
  have nc:∀ k e c,dR k e c ow= .mT:=by
   intro k e c; simp only [dR]
   try (split<;>first | rfl | (exfalso; omega))
  have cl:∀ g,In .mT (O g)->In .mT ((O g).bind a.f):=by
   intro g hg
   rcases hg with hg | hg<;>rw [hg]
   ·exact .inl rfl
   ·exact .inr rfl
  refine ⟨h.top.re (c':=dO k ow) (fun g o hg hi=> ?_) (by rw [tc]; exact fun h=>(by cases h)),fun e c ct he hc=> ?_⟩
  ·obtain ⟨h1,h2⟩:=hb g o hg (.inl hi); simp only [tc] at hi; exact ⟨h1,by rw [h2,tc]; exact cl g hi⟩
  ·obtain ⟨u,hu,hr⟩:=h.rG e c ct he hc
   exact ⟨u,hu,hr.re (c':=dR k e c ow) (fun g o hg hi=>by obtain ⟨h1,h2⟩:=hb g o hg (.inr ⟨e,c,hi⟩); simp only [nc] at hi; exact ⟨h1,by rw [h2,nc]; exact cl g hi⟩) (by rw [nc]; exact fun h=>(by cases h))⟩
structure WE (S T:St) (μ:Nat->Option Nat) (κ:Nat->Nat) (f:Cv->Cv):Prop where
 inj:∀ r r' k,μ r=some k->μ r'=some k->r=r'
 r1:∀ k row',T.lk.r k=some row'->∃ r row,μ r=some k/\S.lk.r r=some row/\row'={ row with ow:=κ r }
 r2:∀ r k row,μ r=some k->S.lk.r r=some row->T.lk.r k=some { row with ow:=κ r }
 kk:∀ r k row,μ r=some k->S.lk.r r=some row->nF (κ r) row.ow=true\/(κ r=row.ow/\ej row.ow=false/\row.ow≠3)
 v1:∀ k cs',T.lk.v k=some cs'->∃ cs,S.lk.v k=some cs/\cs'=cs.map f
 t1:∀ t av',lk T.tm t=some av'->∃ av,lk S.tm t=some av/\av'=ky f av
 fu:f .un= .un
 fr:∀ x,f x= .un\/(f x=x/\x.row=none/\∀ k∈x.vk,∀ cs,S.lk.v k=some cs->∃ cs',T.lk.v k=some cs')\/∃ r k,μ r=some k /\
  ((x= .sw r/\f x= .sw k)\/(∃ o n,x= .sl r o n/\f x= .sl k o n)\/(∃ e c,x= .nw r e c/\f x= .nw k e c)\/(∃ e c o n,x= .ns r e c o n/\f x= .ns k e c o n) \/
   (∃ e c,x= .pe r e c/\f x= .pe k e c)\/∃ e c o n,x= .pn r e c o n/\f x= .pn k e c o n)
 i4:∀ r k,μ r=some k->200000<=k->k<300000->r=k
theorem WE.ok {γ0:Gh} {w0:World} {a:Act} {μ:Nat->Option Nat} {κ:Nat->Nat} {f:Cv->Cv} (hn:WE S T μ κ f) (h:B1 X γ0 w0 S γ a w) :
  ∃ γ',B1 X γ0 w0 T γ' a w/\∀ r k row,μ r=some k->S.lk.r r=some row->γ'.rv k=γ.rv r/\γ'.cv k=γ.cv r:=by
 classical
 let rb:Rb:=⟨fun r=>match μ r,S.lk.r r with | some k,some _=>some (k,κ r) | _,_=>none,none,fun k=>some (.v k)⟩
 let pre:Nat->Nat:=fun k=>if hk:∃ r,μ r=some k then Classical.choose hk else k
 have xj:∀ r k,μ r=some k->pre k=r:=by
  intro r k hr
  have hk:∃ r,μ r=some k:=⟨r,hr⟩
  show (if hk:∃ r,μ r=some k then Classical.choose hk else k)=r
  rw [dif_pos hk]
  exact hn.inj _ _ k (Classical.choose_spec hk) hr
 let γ':Gh:=⟨fun g=>(γ.O g).bind rb.f,fun k=>γ.rv (pre k),fun k=>γ.cv (pre k),γ.vb⟩
 have xp:∀ r k,μ r=some k->γ'.rv k=γ.rv r/\γ'.cv k=γ.cv r:=by
  intro r k hr
  exact ⟨by show γ.rv (pre k)=_; rw [xj r k hr],by show γ.cv (pre k)=_; rw [xj r k hr]⟩
 have qg:∀ x v,bq S.lk γ x v->bq T.lk γ' (f x) v:=by
  intro x v hx
  rcases hn.fr x with he | ⟨he,bo,hvk⟩ | ⟨r,k,hr,hc⟩
  ·rw [he]; exact hx.one h.rel
  ·rw [he]
   refine hx.re (fun r hr=>by rw [bo] at hr; cases hr) (fun r hr=>by rw [bo] at hr; cases hr) fun k hk=>⟨hvk k hk,rfl⟩
  ·obtain ⟨h1,h2⟩:=xp r k hr
   rcases hc with ⟨rfl,he⟩ | ⟨o,n,rfl,he⟩ | ⟨e,c,rfl,he⟩ | ⟨e,c,o,n,rfl,he⟩ | ⟨e,c,rfl,he⟩ | ⟨e,c,o,n,rfl,he⟩<;>rw [he]
   ·obtain ⟨⟨row,bo⟩,hv⟩:=hx
    exact ⟨⟨_,hn.r2 r k row hr bo⟩,by rw [h1]; exact hv⟩
   ·obtain ⟨row,bo,hle,hs⟩:=hx
    exact ⟨_,hn.r2 r k row hr bo,hle,by rw [h1]; exact hs⟩
   ·obtain ⟨row,τ,ys,bo,hle,hs,hu⟩:=hx
    exact ⟨_,τ,ys,hn.r2 r k row hr bo,hle,hs,by rw [h2]; exact hu⟩
   ·obtain ⟨row,τ,ys,u,bo,hle,hs,hu,h5,h6⟩:=hx
    exact ⟨_,τ,ys,u,hn.r2 r k row hr bo,hle,hs,by rw [h2]; exact hu,h5,h6⟩
   ·obtain ⟨row,bo,hle,hs⟩:=hx
    exact ⟨_,hn.r2 r k row hr bo,hle,by rw [h1]; exact hs⟩
   ·obtain ⟨row,τ,ys,u,bo,hle,hs,hu,h5,h6⟩:=hx
    exact ⟨_,τ,ys,u,hn.r2 r k row hr bo,hle,hs,by rw [h2]; exact hu,h5,h6⟩
 refine ⟨γ',⟨⟨fun k cs' hk=> ?_,fun k row' hk=> ?_⟩,fun g hg=> ?_,⟨h.tmp.1,fun t av' ht=> ?_⟩,h.df,⟨h.fr.os,h.fr.tape,h.fr.output,h.fr.size,fun g hg ho=> ?_,fun g hg=> ?_⟩,fun k h1 h2=> ?_,h.i2⟩,fun r k row hr _=>xp r k hr⟩
 ·obtain ⟨cs,iX,rfl⟩:=hn.v1 k cs' hk
  obtain ⟨h1,cur,e,h2,h3⟩:=h.rel.vs k cs iX
  exact ⟨by show (γ.O (γ.vb k)).bind rb.f=_; rw [h1]; rfl,cur,e,h2,h3.map qg⟩
 ·obtain ⟨r,row,hr,bo,rfl⟩:=hn.r1 k row' hk
  obtain ⟨h1,h2⟩:=xp r k hr
  rw [h1,h2]
  refine (h.rel.rs r row bo).Oa (a:=rb) (O':=γ'.O) (k:=k) (d:=κ r) (fun _=> ?_) (hn.kk r k row hr bo) fun g o hg _=>⟨hg,rfl⟩
  show (match μ r,S.lk.r r with | some k,some _=>some (k,κ r) | _,_=>none)=_
  rw [hr,bo]
 ·show (γ.O g).bind rb.f=none
  rw [h.top g hg]; rfl
 ·obtain ⟨av,Qw,rfl⟩:=hn.t1 t av' ht
  exact (h.tmp.2 t av Qw).map qg hn.fu
 ·obtain ⟨h1,h2⟩:=h.fr.oR g hg ho
  refine ⟨?_,h2⟩
  show (γ.O g).bind rb.f=_
  rw [h1]
  rcases ho with ho | ho | ho<;>rw [ho]<;>rfl
 ·show (γ.O g).bind rb.f=none
  rw [h.fr.top g hg]; rfl
 ·show γ.rv (pre k)=_
  by_cases hk:∃ r,μ r=some k
  ·obtain ⟨r,hr⟩:=hk
   rw [xj r k hr,hn.i4 r k hr h1 h2]; exact h.i4 k h1 h2
  ·show γ.rv (if hk:∃ r,μ r=some k then Classical.choose hk else k)=_
   rw [dif_neg hk]; exact h.i4 k h1 h2
end Go.Soft
namespace Go.Soft
open Go
variable {X:Ctx} {m M:Lk} {γ γ':Gh} {w w':World} {ρ:Operand->Value} {S T:St} {δ δ':Dl}
theorem EA:∀ {a b:List Nat},D5 a b=true->a=b
 | [],[],_=>rfl
 | x::l,y::m,h=>by simp only [D5,zB] at h; rw [aG h.1,EA h.2]
 | [],_::_,h=>by simp [D5] at h
 | _::_,[],h=>by simp [D5] at h
theorem N1 {x:Cv} {sh:Sh} (h:RP (Wg x).1 sh=true) (l:List mX):Y1 sh ((Wg x).2++l)=some (x,l):=by
 cases x<;>cases sh<;>simp only [Wg,RP,Bool.false_eq_true,zB] at h<;>simp only [Wg,Y1,List.cons_append,List.nil_append,zA,zG,and_true]
 case nl.nl a b=>rw [AZ h]
 case sw.sw=>rw [aG h]
 case sl.sl=>rw [aG h]
 case nw.nw=>rw [aG h.1,aG h.2]
 case ns.ns=>rw [aG h.1,aG h.2]
 case pv.pv=>rw [aG h.1,aG h.2]
 case pe.pe=>rw [aG h.1,aG h.2]
 case pn.pn=>rw [aG h.1,aG h.2.1,aG h.2.2]
 case fn.fn=>rw [aG h.1,EA h.2]
theorem D3:∀ {x:List Cv} {sh:List Sh},Tc (QB x).1 sh=true->∀ l:List mX,V6 sh ((QB x).2++l)=some (x,l)
 | [],[],_,l=>rfl
 | x::xs,a::b,h,l=>by
  simp only [QB,Tc,zB] at h
  simp only [QB,V6,List.append_assoc,N1 h.1,D3 h.2]
 | [],_::_,h,_=>by simp [QB,Tc] at h
 | _::_,[],h,_=>by simp [QB,Tc] at h
theorem Pg:∀ {x:List (Bool×List Cv)} {sh:List (Bool×List Sh)},LK (Ta x).1 sh=true->∀ l:List mX,YZ sh ((Ta x).2++l)=some (x,l)
 | [],[],_,l=>rfl
 | (t,x)::xs,(u,a)::b,h,l=>by
  simp only [Ta,LK,zB] at h
  have PG:t=u:=by cases t<;>cases u<;>simp_all
  simp only [Ta,YZ,List.append_assoc,D3 h.2.1,Pg h.2.2,PG]
 | [],_::_,h,_=>by simp [Ta,LK] at h
 | _::_,[],h,_=>by simp [Ta,LK] at h
def AV.plain:AV->Prop
 | .g .. =>False
 | _=>True
theorem Uq:∀ {x:AV} {sh:NH},x.plain->NC (I4 x).1 sh=true->∀ l:List mX,Xl sh ((I4 x).2++l)=some (x,l)
 | .c x,.c a,_,h,l=>by simp only [I4,NC] at h; simp only [I4,Xl,N1 h]
 | .a x,.a a,_,h,l=>by simp only [I4,NC] at h; simp only [I4,Xl,D3 h]
 | .t x,.t a,_,h,l=>by simp only [I4,NC] at h; simp only [I4,Xl,Pg h]
 | .g ..,_,hp,_,_=>hp.elim
 | .c x,.a _,_,h,_=>by simp [I4,NC] at h
 | .c x,.t _,_,h,_=>by simp [I4,NC] at h
 | .a x,.c _,_,h,_=>by simp [I4,NC] at h
 | .a x,.t _,_,h,_=>by simp [I4,NC] at h
 | .t x,.c _,_,h,_=>by simp [I4,NC] at h
 | .t x,.a _,_,h,_=>by simp [I4,NC] at h
def QA (l:List (Nat×AV)):Prop:=∀ p∈l,p.2.plain
theorem Kb:∀ {x:List (Nat×AV)} {sh:List (Nat×NH)},QA x->Mk (Gn x).1 sh=true->∀ l:List mX,RX sh ((Gn x).2++l)=some (x,l)
 | [],[],_,_,l=>rfl
 | (t,x)::xs,(u,a)::b,hp,h,l=>by
  simp only [Gn,Mk,zB] at h
  have PG:=aG h.1
  simp only [Gn,RX,List.append_assoc,Uq (hp _ zO) h.2.1,Kb (fun p hm=>hp p (zJ _ hm)) h.2.2,PG]
 | [],_::_,_,h,_=>by simp [Gn,Mk] at h
 | _::_,[],_,h,_=>by simp [Gn,Mk] at h
theorem KI:∀ {x:List (Nat×List Cv)} {sh:List (Nat×List Sh)},LO (Hf x).1 sh=true->∀ l:List mX,Ss sh ((Hf x).2++l)=some (x,l)
 | [],[],_,l=>rfl
 | (t,x)::xs,(u,a)::b,h,l=>by
  simp only [Hf,LO,zB] at h
  have PG:=aG h.1
  simp only [Hf,Ss,List.append_assoc,D3 h.2.1,KI h.2.2,PG]
 | [],_::_,h,_=>by simp [Hf,LO] at h
 | _::_,[],h,_=>by simp [Hf,LO] at h
def sU:List (Nat×Row)->List (Nat×(Ty×Nat))->List (Nat×Row)
 | (k,row)::l,(_,(_,d))::m=>(k,{ row with ow:=d })::sU l m
 | _,_=>[]
theorem Kg:∀ {x:List (Nat×Row)} {sh:List (Nat×(Ty×Nat))},xN (vD x).1 sh=true->Sv sh (vD x).2=some (sU x sh)
 | [],[],_=>rfl
 | (t,x)::xs,(u,(a,d))::b,h=>by
  simp only [vD,xN,zB] at h
  have PG:=aG h.1
  simp only [vD,Sv,Kg h.2.2.2,sU,PG]
 | [],_::_,h=>by simp [vD,xN] at h
 | _::_,[],h=>by simp [vD,xN] at h
def E6 (sh:List (Nat×(Ty×Nat))) (r:Nat):Nat:=match lk sh r with | some (_,d)=>d | none=>0
theorem GN:∀ {x:List (Nat×Row)} {sh:List (Nat×(Ty×Nat))},xN (vD x).1 sh=true->∀ k,lk (sU x sh) k=(lk x k).map fun row=>{ row with ow:=E6 sh k }
 | [],[],_,k=>rfl
 | (t,x)::xs,(u,(a,d))::b,h,k=>by
  simp only [vD,xN,zB] at h
  have PG:=aG h.1
  subst PG
  have ih:=GN h.2.2.2 k
  simp only [sU,lk,E6]
  cases hk:Nat.beq t k with
  | true=>rfl
  | false=>simp only; rw [ih]; rfl
 | [],_::_,h,_=>by simp [vD,xN] at h
 | _::_,[],h,_=>by simp [vD,xN] at h
theorem HW:∀ {x:List (Nat×Row)} {sh:List (Nat×(Ty×Nat))},xN (vD x).1 sh=true->∀ k row,lk x k=some row->nF (E6 sh k) row.ow=true/\(E6 sh k=1->row.ow=1\/k<100000\/400000<=k)
 | [],_,_,k,row,h=>by cases h
 | (t,x)::xs,(u,(a,d))::b,h,k,row,hk=>by
  simp only [vD,xN,zB] at h
  have PG:=aG h.1
  subst PG
  simp only [lk] at hk
  simp only [E6,lk]
  cases hkt:Nat.beq t k with
  | true =>
   simp only [hkt,zA] at hk
   have:=aG hkt; subst this; subst hk
   obtain ⟨h1,h2,⟨h3,h4⟩,h5⟩:=h
   refine ⟨h3,fun hd=> ?_⟩
   have hd:d=1:=hd
   subst hd
   simp only [Bool.or_eq_true] at h4
   rcases h4 with h4 | h4 | h4
   ·exact .inl (aG h4)
   ·exact .inr (.inl (by have:=zQ h4; omega))
   ·exact .inr (.inr (zQ h4))
  | false =>
   simp only [hkt] at hk
   have:=HW h.2.2.2 k row hk
   simpa [E6] using this
 | (_,_)::_,[],h,_,_,_=>by simp [vD,xN] at h
theorem LP {sk:Sk} (hg:QA S.tm) (h:Hm (flat S).1 sk=true):AE sk (flat S).2=some ⟨S.tm,S.vs,sU S.rs sk.rs⟩:=by
 simp only [flat,Hm,zB] at h
 simp only [flat,AE,Kb hg h.1,KI h.2.1,Kg h.2.2]
theorem L7 {sk:Sk} (h:Hm (flat S).1 sk=true) {e0:Lk} {γ0:Gh} {w0:World} {a:Act} (hI:Inv X e0 γ0 w0 S γ a w):∃ γ',Inv X e0 γ0 w0 ⟨S.tm,S.vs,sU S.rs sk.rs⟩ γ' a w:=by
 simp only [flat,Hm,zB] at h
 have hr:∀ k,(St.mk S.tm S.vs (sU S.rs sk.rs)).lk.r k=(S.lk.r k).map fun row=>{ row with ow:=E6 sk.rs k }:=fun k=>GN h.2.2 k
 have hn:WE S ⟨S.tm,S.vs,sU S.rs sk.rs⟩ some (E6 sk.rs) id:=by
  refine ⟨fun r r' k h1 h2=>by cases h1; cases h2; rfl,fun k row' hk=> ?_,fun r k row h1 h2=> ?_,fun r k row h1 h2=> .inl (HW h.2.2 r row h2).1,fun k cs' hk=>⟨cs',hk,by simp⟩,
   fun t av' ht=>⟨av',ht,(zw (fun _=>rfl) _).symm⟩,rfl,fun x=> ?_,fun r k h _ _=>by cases h; rfl⟩
  ·rw [hr] at hk
   cases hl:S.lk.r k with
   | none=>rw [hl] at hk; cases hk
   | some row=>rw [hl] at hk; cases hk; exact ⟨k,row,rfl,hl,rfl⟩
  ·cases h1; rw [hr,h2]; rfl
  ·cases x with
   | sw r=>exact .inr (.inr ⟨r,r,rfl,.inl ⟨rfl,rfl⟩⟩)
   | sl r o n=>exact .inr (.inr ⟨r,r,rfl,.inr (.inl ⟨o,n,rfl,rfl⟩)⟩)
   | nw r o n=>exact .inr (.inr ⟨r,r,rfl,.inr (.inr (.inl ⟨o,n,rfl,rfl⟩))⟩)
   | ns r e c o n=>exact .inr (.inr ⟨r,r,rfl,.inr (.inr (.inr (.inl ⟨e,c,o,n,rfl,rfl⟩)))⟩)
   | pe r o n=>exact .inr (.inr ⟨r,r,rfl,.inr (.inr (.inr (.inr (.inl ⟨o,n,rfl,rfl⟩))))⟩)
   | pn r e c o n=>exact .inr (.inr ⟨r,r,rfl,.inr (.inr (.inr (.inr (.inr ⟨e,c,o,n,rfl,rfl⟩))))⟩)
   | _=>exact .inr (.inl ⟨rfl,rfl,fun k _ cs iX=>⟨cs,iX⟩⟩)
 obtain ⟨γ',h1,h2⟩:=hn.ok hI.R2
 refine ⟨γ',h1.inv fun k row' vQ r9 CV Nh=> ?_⟩
 rw [hr] at CV
 cases hl:S.lk.r k with
 | none=>rw [hl] at CV; cases CV
 | some row =>
  rw [hl] at CV; cases CV
  have Nh:E6 sk.rs k=1:=Nh
  have h5:row.ow=1:=by
   rcases (HW h.2.2 k row hl).2 Nh with h | h | h
   ·exact h
   ·omega
   ·omega
  obtain ⟨i1,i2,i3⟩:=hI.i3 k row vQ r9 hl h5
  obtain ⟨j1,j2⟩:=h2 k k row rfl hl
  exact ⟨by rw [i1,Nh,← h5],by rw [j1,i2],by rw [j2,i3]⟩
theorem J4 (a:Nat):nF a a=true\/(a=a/\ej a=false/\a≠3):=by
 rcases a with _|_|_|_|_|_|a
 ·exact .inr ⟨rfl,rfl,by omega⟩
 ·exact .inl rfl
 ·exact .inl rfl
 ·exact .inl rfl
 ·exact .inl rfl
 ·exact .inl rfl
 ·exact .inr ⟨rfl,rfl,by omega⟩
def yi (fz:List Nat) (k:Nat) (row:Row):Bool:=match cg k fz&&(Nat.ble 1 row.ow&&Nat.ble row.ow 5),Nat.ble 300000 k&&(Nat.ble k 399999&&Nat.beq row.ow 2) with
 | true,false=>true
 | _,_=>false
theorem Df (fz:List Nat):∀ (l:List (Nat×Row)) (k:Nat),lk (freeze fz l) k=(lk l k).map fun row=>bif yi fz k row then { row with ow:=Pk row.ow } else row
 | [],k=>rfl
 | (j,row)::l,k=>by
  have ih:=Df fz l k
  have:freeze fz ((j,row)::l)=(j,bif yi fz j row then { row with ow:=Pk row.ow } else row)::freeze fz l:=by
   simp only [freeze,yi]
   generalize (cg j fz&&(Nat.ble 1 row.ow&&Nat.ble row.ow 5))=b1
   generalize (Nat.ble 300000 j&&(Nat.ble j 399999&&Nat.beq row.ow 2))=b2
   cases b1<;>cases b2<;>rfl
  rw [this]
  simp only [lk,ih]
  cases hj:Nat.beq j k with
  | true=>have:=aG hj; subst this; rfl
  | false=>rfl
theorem US {a:Nat} (h1:1<=a) (h2:a<=5):nF (Pk a) a=true:=by
 rcases a with _|_|_|_|_|_|a
 ·omega
 ·rfl
 ·rfl
 ·rfl
 ·rfl
 ·rfl
 ·omega
theorem Us {f:Cv->Cv} (hf:∀ x,f x=x) {μ:Nat->Option Nat} (hμ:∀ r,μ r=some r) (hv:∀ k cs,S.lk.v k=some cs->∃ cs',T.lk.v k=some cs') (x:Cv) :
  f x= .un\/(f x=x/\x.row=none/\∀ k∈x.vk,∀ cs,S.lk.v k=some cs->∃ cs',T.lk.v k=some cs')\/∃ r k,μ r=some k /\
  ((x= .sw r/\f x= .sw k)\/(∃ o n,x= .sl r o n/\f x= .sl k o n)\/(∃ e c,x= .nw r e c/\f x= .nw k e c)\/(∃ e c o n,x= .ns r e c o n/\f x= .ns k e c o n) \/
   (∃ e c,x= .pe r e c/\f x= .pe k e c)\/∃ e c o n,x= .pn r e c o n/\f x= .pn k e c o n):=by
 have h:=hf x
 cases x with
 | sw r=>exact .inr (.inr ⟨r,r,hμ r,.inl ⟨rfl,h⟩⟩)
 | sl r o n=>exact .inr (.inr ⟨r,r,hμ r,.inr (.inl ⟨o,n,rfl,h⟩)⟩)
 | nw r o n=>exact .inr (.inr ⟨r,r,hμ r,.inr (.inr (.inl ⟨o,n,rfl,h⟩))⟩)
 | ns r e c o n=>exact .inr (.inr ⟨r,r,hμ r,.inr (.inr (.inr (.inl ⟨e,c,o,n,rfl,h⟩)))⟩)
 | pe r o n=>exact .inr (.inr ⟨r,r,hμ r,.inr (.inr (.inr (.inr (.inl ⟨o,n,rfl,h⟩))))⟩)
 | pn r e c o n=>exact .inr (.inr ⟨r,r,hμ r,.inr (.inr (.inr (.inr (.inr ⟨e,c,o,n,rfl,h⟩))))⟩)
 | _=>exact .inr (.inl ⟨h,rfl,fun k _ cs iX=>hv k cs iX⟩)
def ZX (e0:Lk) (γ0:Gh) (S:St) (γ:Gh):Prop:=∀ k row,300000<=k->k<400000->S.lk.r k=some row->row.ow=1->e0.r k=some row/\γ.rv k=γ0.rv k/\γ.cv k=γ0.cv k
theorem LU {e0:Lk} {γ0:Gh} {w0:World} {a:Act} (fz:List Nat) (hI:Inv X e0 γ0 w0 S γ a w):∃ γ',B1 X γ0 w0 (S.freeze fz) γ' a w/\ZX e0 γ0 (S.freeze fz) γ':=by
 have done:∃ γ',B1 X γ0 w0 S γ' a w/\ZX e0 γ0 S γ':=⟨γ,hI.R2,fun k row h1 h2=>hI.i3 k row (by omega) h2⟩
 cases X6:fz with
 | nil=>exact done
 | cons t l =>
  simp only [St.freeze]
  generalize I2 (rW S.get (t::l))=ks
  let T:St:=⟨S.tm,S.vs,Soft.freeze ks S.rs⟩
  have hr:∀ k,T.lk.r k=(S.lk.r k).map fun row=>bif yi ks k row then { row with ow:=Pk row.ow } else row:=fun k=>Df ks S.rs k
  let κ:Nat->Nat:=fun r=>match S.lk.r r with | some row=>(bif yi ks r row then Pk row.ow else row.ow) | none=>0
  have hκ:∀ r row,S.lk.r r=some row->κ r=bif yi ks r row then Pk row.ow else row.ow:=by
   intro r row hr
   show (match S.lk.r r with | some row=>(bif yi ks r row then Pk row.ow else row.ow) | none=>0)=_
   rw [hr]
  have bo:∀ r row,S.lk.r r=some row->(bif yi ks r row then { row with ow:=Pk row.ow } else row)={ row with ow:=κ r }:=by
   intro r row hr
   rw [hκ r row hr]
   cases yi ks r row<;>rfl
  have hn:WE S T some κ id:=by
   refine ⟨fun r r' k h1 h2=>by cases h1; cases h2; rfl,fun k row' hk=> ?_,fun r k row h1 h2=> ?_,fun r k row h1 h2=> ?_,fun k cs' hk=>⟨cs',hk,by simp⟩,
    fun t av' ht=>⟨av',ht,(zw (fun _=>rfl) _).symm⟩,rfl,Us (fun _=>rfl) (fun _=>rfl) fun k cs h=>⟨cs,h⟩,fun r k h _ _=>by cases h; rfl⟩
   ·rw [hr] at hk
    cases hl:S.lk.r k with
    | none=>rw [hl] at hk; cases hk
    | some row=>rw [hl] at hk; cases hk; exact ⟨k,row,rfl,hl,bo k row hl⟩
   ·cases h1; rw [hr,h2]; exact congrArg some (bo r row h2)
   ·rw [hκ r row h2]
    cases hf:yi ks r row with
    | false=>exact J4 row.ow
    | true =>
     refine .inl ?_
     simp only [yi] at hf
     revert hf; split
     ·rename_i h1 _
      intro _
      simp only [zB] at h1
      exact US (zQ h1.2.1) (zQ h1.2.2)
     ·intro h; cases h
  obtain ⟨γ',h1,h2⟩:=hn.ok hI.R2
  refine ⟨γ',h1,fun k row' vQ r9 CV Nh=> ?_⟩
  have CV:T.lk.r k=some row':=CV
  rw [hr] at CV
  cases hl:S.lk.r k with
  | none=>rw [hl] at CV; cases CV
  | some row =>
   rw [hl] at CV
   simp only [Option.map_some,zA] at CV
   have h5:row.ow=1/\row'=row:=by
    cases hf:yi ks k row with
    | false=>rw [hf] at CV; simp only [zF] at CV; subst CV; exact ⟨Nh,rfl⟩
    | true =>
     rw [hf] at CV; simp only [zE] at CV
     subst CV
     have Nh:Pk row.ow=1:=Nh
     have h12:row.ow=1\/row.ow=2:=by
      revert Nh; simp only [Pk]; split
      ·exact fun _=> .inl (by assumption)
      ·exact fun _=> .inr (by assumption)
      ·intro h; cases h
     rcases h12 with h | h
     ·refine ⟨h,?_⟩
      obtain ⟨τ,xs,ow⟩:=row
      simp only at h; subst h; rfl
     ·exfalso
      simp only [yi] at hf
      have:(Nat.ble 300000 k&&(Nat.ble k 399999&&Nat.beq row.ow 2))=true:=by
       rw [h]; simp only [zB]
       exact ⟨Nat.ble_eq_true_of_le vQ,Nat.ble_eq_true_of_le (by omega),rfl⟩
      rw [this] at hf
      revert hf
      cases (cg k ks&&(Nat.ble 1 row.ow&&Nat.ble row.ow 5))<;>simp
   obtain ⟨h5,rfl⟩:=h5
   obtain ⟨i1,i2,i3⟩:=hI.i3 k row' (by omega) r9 hl h5
   obtain ⟨j1,j2⟩:=h2 k k row' rfl hl
   exact ⟨i1,by rw [j1,i2],by rw [j2,i3]⟩
inductive Dc (X:Ctx) (O:OM) (w:World):List (Nat×Row)->List (Nat×(Value×List Value))->Prop
 | nil:Dc X O w [] []
 | cons {k:Nat} {row:Row} {v:Value} {cs:List Value} {rs:List (Nat×Row)} {V:List (Nat×(Value×List Value))}:cP X O w k row v cs->Dc X O w rs V->Dc X O w ((k,row)::rs) ((k,(v,cs))::V)
theorem Dc.append {O:OM} {rs rs':List (Nat×Row)} {V V':List (Nat×(Value×List Value))} (h:Dc X O w rs V) (h':Dc X O w rs' V'):Dc X O w (rs++rs') (V++V'):=by
 induction h with
 | nil=>exact h'
 | cons hr _ ih=>exact .cons hr ih
theorem Dc.keys {O:OM} {rs:List (Nat×Row)} {V:List (Nat×(Value×List Value))} (h:Dc X O w rs V):keys V=Soft.keys rs:=by
 induction h with
 | nil=>rfl
 | cons _ _ ih=>simp [Soft.keys,ih]
theorem Dc.get {O:OM} {rs:List (Nat×Row)} {V:List (Nat×(Value×List Value))} (h:Dc X O w rs V):∀ k row,lk rs k=some row->∃ vc,lk V k=some vc/\cP X O w k row vc.1 vc.2:=by
 induction h with
 | nil=>intro k row h; cases h
 | cons hr _ ih =>
  rename_i j _ v cs _ _ _
  intro k row hk
  simp only [lk] at hk ⊢
  cases hj:Nat.beq j k with
  | true =>
   simp only [hj,zA] at hk ⊢
   have:=aG hj; subst this; subst hk
   exact ⟨_,rfl,hr⟩
  | false=>simp only [hj] at hk ⊢; exact ih k row hk
structure Ag (m:Lk) (γ:Gh) (rs:List (Nat×Row)) (V:List (Nat×(Value×List Value))) (m1:Lk) (γ1:Gh):Prop where
 r:∀ r row,m.r r=some row->m1.r r=some row/\γ1.rv r=γ.rv r/\γ1.cv r=γ.cv r
 v:∀ k cs,m.v k=some cs->∃ cs',m1.v k=some cs'
 vb:γ1.vb=γ.vb
 n:∀ k row,(k,row)∈rs->m1.r k=some row
 g:∀ k vc,(k,vc)∈V->γ1.rv k=vc.1/\γ1.cv k=vc.2
variable {m1:Lk} {γ1:Gh} {rs rs':List (Nat×Row)} {V V':List (Nat×(Value×List Value))}
theorem Ag.left (h:Ag m γ (rs++rs') (V++V') m1 γ1):Ag m γ rs V m1 γ1:=⟨h.r,h.v,h.vb,fun k row hm=>h.n k row (List.mem_append_left _ hm),fun k vc hm=>h.g k vc (List.mem_append_left _ hm)⟩
theorem Ag.right (h:Ag m γ (rs++rs') (V++V') m1 γ1):Ag m γ rs' V' m1 γ1:=⟨h.r,h.v,h.vb,fun k row hm=>h.n k row (List.mem_append_right _ hm),fun k vc hm=>h.g k vc (List.mem_append_right _ hm)⟩
theorem Ag.r8 (h:Ag m γ rs V m1 γ1) {x:Cv} {v:Value} (hx:bq m γ x v):bq m1 γ1 x v :=
 hx.re (fun r _=>⟨fun row hr=>⟨row,(h.r r row hr).1,rfl,Nat.le_refl _⟩,by
  cases zW:m.r r with
  | some row=>exact (h.r r row zW).2.1
  | none =>
   exfalso
   rename_i bo
   revert hx
   cases x<;>simp only [Cv.row,zA,reduceCtorEq] at bo<;>subst bo<;>simp [bq,zW]⟩)
  (fun r _ _=>⟨fun row row' h1 h2 e c τ ys he hc=>by
   have h3:=h.r r row h1
   rw [h3.1] at h2; cases h2
   exact ⟨⟨ys,hc,Nat.le_refl _⟩,by rw [h3.2.2]⟩⟩) fun k _=>⟨fun cs iX=>h.v k cs iX,by rw [h.vb]⟩
theorem Ag.ZV (h:Ag m γ rs V m1 γ1) {x:AV} {v:Value} (hx:bk m γ x v):bk m1 γ1 x v:=by
 have:=bk.map (f:=id) (fun x v hx=>h.r8 hx) rfl hx
 rwa [zw (f:=id) (fun _=>rfl)] at this
theorem OP (hR:Rel X m γ w) {x y:Cv} {v:Value} {k:Nat} {rs:List (Nat×Row)} (hx:bq m γ x v) (h:m.MF k x=(y,rs)) :
  ∃ V,Dc X γ.O w rs V/\∀ m1 γ1,Ag m γ rs V m1 γ1->bq m1 γ1 y v:=by
 have same:∀ {y:Cv} {rs:List (Nat×Row)},(x,[])=(y,rs)->∃ V,Dc X γ.O w rs V/\∀ m1 γ1,Ag m γ rs V m1 γ1->bq m1 γ1 y v:=by
  intro y rs h
  cases h
  exact ⟨[],.nil,fun m1 γ1 ha=>ha.r8 hx⟩
 have new:∀ {row:Row} {cs:List Value} {y:Cv} {rs:List (Nat×Row)},cP X γ.O w k row v cs->(Cv.sw k,[(k,row)])=(y,rs)->∃ V,Dc X γ.O w rs V/\∀ m1 γ1,Ag m γ rs V m1 γ1->bq m1 γ1 y v:=by
  intro row cs y rs hr h
  cases h
  exact ⟨[(k,(v,cs))],.cons hr .nil,fun m1 γ1 ha=>⟨⟨row,ha.n k row (by simp)⟩,(ha.g k (v,cs) (by simp)).1.symm⟩⟩
 have mT:∀ {τ:Ty} {ys:List (El τ)},m.LG x=true->(∃ r,x.row=some r)->(m.vw x).ct=some (.l τ ys)->∃ cs,cP X γ.O w k ⟨τ,ys,match x.row with | some r=>(match m.r r with | some row=>row.ow | none=>1) | none=>1⟩ v cs:=by
  intro τ ys hi bo hc
  obtain ⟨r,bo⟩:=bo
  simp only [Lk.LG,bo] at hi ⊢
  cases hr:m.r r with
  | none=>simp [hr] at hi
  | some row =>
   simp only [hr] at hi ⊢
   revert hi; split
   ·rename_i h1
    intro _
    obtain ⟨cs,hv⟩:=EL (Le.refl m) hR hx (A:=fun g=>In .mT (γ.O g)) (fun r' row' g cz zW hi=>by
     rw [bo] at zW; cases zW
     rw [hr] at cz; cases cz
     rw [h1] at hi
     rcases hi with hi | ⟨_,_,hi⟩<;>exact hi) hc
    rw [h1]; exact ⟨cs,hv.H3⟩
   ·rename_i h1
    intro _
    obtain ⟨cs,hv⟩:=EL (Le.refl m) hR hx (A:=fun g=>In .fz (γ.O g)) (fun r' row' g cz zW hi=>by
     rw [bo] at zW; cases zW
     rw [hr] at cz; cases cz
     rw [h1] at hi
     rcases hi with hi | ⟨_,_,hi⟩<;>exact hi) hc
    rw [h1]; exact ⟨cs,hv.Xf⟩
   ·intro h; cases h
 cases x with
 | nl τ =>
  simp only [Lk.MF] at h
  have hv:v= .slice none 0 0:=hx
  exact new (by rw [hv]; exact cP.nil X γ.O w k τ 5) h
 | sw r =>
  simp only [Lk.MF] at h
  cases hr:m.r r with
  | none=>simp only [hr] at h; exact same h
  | some row =>
   simp only [hr] at h
   have bo:=hR.rs r row hr
   obtain ⟨_,hv⟩:=hx
   have Tn:row.ow=1\/row.ow=3->cP X γ.O w k row v (γ.cv r):=by
    intro ho
    rw [hv]
    have:=bo.re (k':=k) (dM:=row.ow) (w':=w) (O':=γ.O) (by rcases ho with ho | ho<;>rw [ho]<;>rfl) (fun g o hg hi=>⟨hg,by rcases ho with ho | ho<;>rw [ho] at hi ⊢<;>exact hi⟩)
     (fun e c g o hg hi=>⟨hg,by rcases ho with ho | ho<;>rw [ho] at hi ⊢<;>exact hi⟩)
    exact this
   revert h; split
   ·rename_i h1; exact fun h=>new (Tn (.inl h1)) h
   ·rename_i h1; exact fun h=>new (Tn (.inr h1)) h
   ·exact fun h=>same h
 | sl r o n =>
  simp only [Lk.MF] at h
  revert h; split
  ·rename_i hi hc
   intro h
   obtain ⟨cs,hr⟩:=mT hi ⟨r,rfl⟩ hc
   exact new hr h
  ·exact fun h=>same h
 | nw r o n =>
  simp only [Lk.MF] at h
  revert h; split
  ·rename_i hi hc
   intro h
   obtain ⟨cs,hr⟩:=mT hi ⟨r,rfl⟩ hc
   exact new hr h
  ·exact fun h=>same h
 | ns r e c o n =>
  simp only [Lk.MF] at h
  revert h; split
  ·rename_i hi hc
   intro h
   obtain ⟨cs,hr⟩:=mT hi ⟨r,rfl⟩ hc
   exact new hr h
  ·exact fun h=>same h
 | _=>exact same h
theorem Ih (hR:Rel X m γ w):∀ {x y:List Cv} {v:List Value} {k:Nat} {rs:List (Nat×Row)},ca m γ x v->m.NY k x=(y,rs) ->
  ∃ V,Dc X γ.O w rs V/\∀ m1 γ1,Ag m γ rs V m1 γ1->ca m1 γ1 y v
 | [],y,v,k,rs,hx,h=>by cases hx; cases h; exact ⟨[],.nil,fun _ _ _=> .nil⟩
 | x::l,y,v,k,rs,hx,h=>by
  cases hx with
  | cons hx hl =>
   simp only [Lk.NY] at h
   cases h1:m.MF k x with
   | mk a ra =>
    cases h2:m.NY (k+1) l with
    | mk b rb =>
     simp only [h1,h2] at h; cases h
     obtain ⟨V,HB,MK⟩:=OP hR hx h1
     obtain ⟨V',Vz,YK⟩:=Ih hR hl h2
     exact ⟨V++V',HB.append Vz,fun m1 γ1 ha=> .cons (MK m1 γ1 ha.left) (YK m1 γ1 ha.right)⟩
theorem KD (hR:Rel X m γ w) {VT:Nat->Value}:∀ {x y:List (Nat×AV)} {k:Nat} {rs:List (Nat×Row)},(∀ p∈x,bk m γ p.2 (VT p.1))->m.n7 k x=(y,rs) ->
  ∃ V,Dc X γ.O w rs V/\∀ m1 γ1,Ag m γ rs V m1 γ1->∀ p∈y,bk m1 γ1 p.2 (VT p.1)
 | [],y,k,rs,hx,h=>by cases h; exact ⟨[],.nil,fun _ _ _ p hp=>by cases hp⟩
 | (t,av)::l,y,k,rs,hx,h=>by
  have hl:∀ p∈l,bk m γ p.2 (VT p.1):=fun p hp=>hx p (zJ _ hp)
  have h0:bk m γ av (VT t):=hx (t,av) zO
  have rest:∀ {b:AV} {rb:List (Nat×Row)} {V:List (Nat×(Value×List Value))} {y:List (Nat×AV)} {rs:List (Nat×Row)},Dc X γ.O w rb V->(∀ m1 γ1,Ag m γ rb V m1 γ1->bk m1 γ1 b (VT t)) ->
    (match m.n7 (k+64) l with | (n,rs)=>((t,b)::n,rb++rs))=(y,rs)->∃ V,Dc X γ.O w rs V/\∀ m1 γ1,Ag m γ rs V m1 γ1->∀ p∈y,bk m1 γ1 p.2 (VT p.1):=by
   intro b rb V y rs HB MK h
   cases h2:m.n7 (k+64) l with
   | mk n rc =>
    simp only [h2] at h; cases h
    obtain ⟨V',Vz,YK⟩:=KD hR hl h2
    refine ⟨V++V',HB.append Vz,fun m1 γ1 ha p hp=> ?_⟩
    rcases zI.1 hp with rfl | hp
    ·exact MK m1 γ1 ha.left
    ·exact YK m1 γ1 ha.right p hp
  have other:∀ {y:List (Nat×AV)} {rs:List (Nat×Row)},(match m.n7 (k+64) l with | (n,rs)=>((t,av)::n,rs))=(y,rs)->∃ V,Dc X γ.O w rs V/\∀ m1 γ1,Ag m γ rs V m1 γ1->∀ p∈y,bk m1 γ1 p.2 (VT p.1):=by
   intro y rs h
   refine rest (b:=av) (rb:=[]) (V:=[]) .nil (fun m1 γ1 ha=>ha.ZV h0) ?_
   cases h2:m.n7 (k+64) l with
   | mk n rc=>simp only [h2] at h ⊢; exact h
  cases av with
  | c x =>
   simp only [Lk.n7] at h
   cases h1:m.MF k x with
   | mk a ra =>
    simp only [h1] at h
    by_cases hu:x= .un
    ·subst hu
     simp only [Lk.MF,zG] at h1
     obtain ⟨rfl,rfl⟩:=h1
     exact rest (b:= .c .un) (V:=[]) .nil (fun _ _ _=>trivial) h
    ·obtain ⟨V,HB,MK⟩:=OP hR (bk.to h0 hu) h1
     exact rest (b:= .c a) HB (fun m1 γ1 ha=>bk.of (MK m1 γ1 ha)) h
  | a x =>
   simp only [Lk.n7] at h
   cases h1:m.NY k x with
   | mk a ra =>
    simp only [h1] at h
    obtain ⟨us,SQ,xi⟩:=h0
    obtain ⟨V,HB,MK⟩:=Ih hR xi h1
    exact rest (b:= .a a) HB (fun m1 γ1 ha=>⟨us,SQ,MK m1 γ1 ha⟩) h
  | t x=>exact other h
  | g p q x=>exact other h
theorem Kt (hR:Rel X m γ w) {H:Nat->List Value->Prop}:∀ {x y:List (Nat×List Cv)} {k:Nat} {rs:List (Nat×Row)},(∀ p∈x,∃ u,H p.1 u/\ca m γ p.2 u)->m.EB k x=(y,rs) ->
  ∃ V,Dc X γ.O w rs V/\keys y=keys x/\∀ m1 γ1,Ag m γ rs V m1 γ1->∀ p∈y,∃ u,H p.1 u/\ca m1 γ1 p.2 u
 | [],y,k,rs,hx,h=>by cases h; exact ⟨[],.nil,rfl,fun _ _ _ p hp=>by cases hp⟩
 | (t,cs)::l,y,k,rs,hx,h=>by
  simp only [Lk.EB] at h
  cases h1:m.NY k cs with
  | mk a ra =>
   cases h2:m.EB (k+64) l with
   | mk n rc =>
    simp only [h1,h2] at h; cases h
    obtain ⟨u,hu,hr⟩:=hx (t,cs) zO
    obtain ⟨V,HB,MK⟩:=Ih hR hr h1
    obtain ⟨V',Vz,hk,YK⟩:=Kt hR (fun p hp=>hx p (zJ _ hp)) h2
    refine ⟨V++V',HB.append Vz,by simp [keys,hk],fun m1 γ1 ha p hp=> ?_⟩
    rcases zI.1 hp with rfl | hp
    ·exact ⟨u,hu,MK m1 γ1 ha.left⟩
    ·exact YK m1 γ1 ha.right p hp
theorem G4 (k:Nat) (x:Cv):∀ j∈keys (m.MF k x).2,j=k:=by
 intro j hj
 revert hj
 simp only [Lk.MF]
 repeat' split
 all_goals simp [keys]
theorem BD:∀ (x:List Cv) (k:Nat),∀ j∈keys (m.NY k x).2,k<=j
 | [],k,j,h=>by simp [Lk.NY,keys] at h
 | x::l,k,j,h=>by
  have h1:=G4 (m:=m) k x
  have h2:=BD l (k+1)
  simp only [Lk.NY,bA,zH] at h
  rcases h with h | h
  ·have:=h1 j h; omega
  ·have:=h2 j h; omega
theorem DM:∀ (x:List (Nat×AV)) (k:Nat),∀ j∈keys (m.n7 k x).2,k<=j
 | [],k,j,h=>by simp [Lk.n7,keys] at h
 | (t,av)::l,k,j,h=>by
  have h2:=DM l (k+64)
  cases av with
  | c x =>
   simp only [Lk.n7,bA,zH] at h
   rcases h with h | h
   ·have:=G4 k x j h; omega
   ·have:=h2 j h; omega
  | a x =>
   simp only [Lk.n7,bA,zH] at h
   rcases h with h | h
   ·exact BD x k j h
   ·have:=h2 j h; omega
  | t x=>simp only [Lk.n7] at h; have:=h2 j h; omega
  | g p q x=>simp only [Lk.n7] at h; have:=h2 j h; omega
theorem Di:∀ (x:List (Nat×List Cv)) (k:Nat),∀ j∈keys (m.EB k x).2,k<=j
 | [],k,j,h=>by simp [Lk.EB,keys] at h
 | (t,cs)::l,k,j,h=>by
  have h2:=Di l (k+64)
  simp only [Lk.EB,bA,zH] at h
  rcases h with h | h
  ·exact BD cs k j h
  ·have:=h2 j h; omega
end Go.Soft
namespace Go.Soft
open Go
variable {X:Ctx} {m M:Lk} {γ γ':Gh} {w w':World} {ρ:Operand->Value} {S T:St} {δ δ':Dl}
theorem DR {s:St} {t:Nat} {av:AV}:∀ {l:List Nat},(t,av)∈DN s l->av=uP (s.get t)
 | [],h=>by cases h
 | x::l,h=>by
  rcases zI.1 h with h | h
  ·cases h; rfl
  ·exact DR h
theorem vB {vs:List (Nat×List Cv)} {k:Nat} {cs:List Cv}:∀ {l:List Nat},(k,cs)∈vg vs l->lk vs k=some cs
 | [],h=>by cases h
 | x::l,h=>by
  simp only [vg] at h
  cases hx:lk vs x with
  | none=>rw [hx] at h; exact vB h
  | some c =>
   rw [hx] at h
   rcases zI.1 h with h | h
   ·cases h; exact hx
   ·exact vB h
theorem Bd {v:Nat}:∀ {l:List Nat} {i j:Nat},mZ v i l=some j->v∈l
 | [],i,j,h=>by cases h
 | x::l,i,j,h=>by
  simp only [mZ] at h
  cases hx:Nat.beq x v with
  | true=>rw [aG hx]; exact zO
  | false=>rw [hx] at h; exact zJ _ (Bd h)
theorem tQ {α:Type} (a b:List (Nat×α)) (k:Nat):lk (a++b) k=match lk a k with | some v=>some v | none=>lk b k:=by
 induction a with
 | nil=>rfl
 | cons p a ih =>
  obtain ⟨j,v⟩:=p
  simp only [List.cons_append,lk,ih]
  cases Nat.beq j k<;>rfl
theorem lg:∀ {l:List Cv} {acc:List Nat},acc.Nodup->(oN l acc).Nodup
 | [],acc,h=>h
 | x::l,acc,h=>by
  simp only [oN]
  cases x.row with
  | none=>exact lg h
  | some r =>
   simp only
   cases hi:mZ r 0 acc with
   | some _=>exact lg h
   | none=>exact lg (List.nodup_append.2 ⟨h,by simp,fun a ha b hb=>by simp at hb; subst hb; intro e; subst e; exact tK hi ha⟩)
theorem Dq {m:List Nat}:∀ {l:List Nat},Bj l m=true->∀ x∈l,x∈m
 | [],_,x,hx=>by cases hx
 | y::l,h,x,hx=>by
  simp only [Bj] at h
  cases hi:mZ y 0 m with
  | none=>rw [hi] at h; cases h
  | some j =>
   rw [hi] at h
   rcases zI.1 hx with rfl | hx
   ·exact Bd hi
   ·exact Dq h x hx
theorem ud {rs:List (Nat×Row)}:∀ {l:List Nat} {k r v:Nat},(r,v)∈pY rs k l->r∈l/\∃ row,lk rs r=some row/\((uE r row=true/\v=r)\/(uE r row=false/\∃ i,k<=i/\v=500000+i))
 | [],k,r,v,h=>by cases h
 | x::l,k,r,v,h=>by
  simp only [pY] at h
  cases hx:lk rs x with
  | none =>
   rw [hx] at h
   obtain ⟨h1,row,h2,h3⟩:=ud h
   refine ⟨zJ _ h1,row,h2,h3.imp id fun ⟨h4,i,h5,h6⟩=>⟨h4,i,by omega,h6⟩⟩
  | some row =>
   rw [hx] at h
   rcases zI.1 h with h | h
   ·simp only [zG] at h
    obtain ⟨rfl,hv⟩:=h
    refine ⟨zO,row,hx,?_⟩
    cases hk:uE r row with
    | true=>rw [hk] at hv; exact .inl ⟨rfl,hv⟩
    | false=>rw [hk] at hv; exact .inr ⟨rfl,k,Nat.le_refl _,hv⟩
   ·obtain ⟨h1,row,h2,h3⟩:=ud h
    refine ⟨zJ _ h1,row,h2,h3.imp id fun ⟨h4,i,h5,h6⟩=>⟨h4,i,by omega,h6⟩⟩
theorem sn {r:Nat} {row:Row} (h:uE r row=true):100000<=r/\r<=399999/\(row.ow=1->300000<=r):=by
 simp only [uE] at h
 cases h1:Nat.ble 100000 r with
 | false=>rw [h1] at h; simp at h
 | true =>
  have HP:=zQ h1
  cases h2:Nat.ble r 299999 with
  | true =>
   have:=zQ h2
   refine ⟨HP,by omega,fun ho=> ?_⟩
   rw [h1,h2,ho] at h; simp at h
  | false =>
   have Js:¬ r<=299999:=fun hle=>by rw [Nat.ble_eq_true_of_le hle] at h2; cases h2
   cases h3:Nat.ble r 399999 with
   | true=>have:=zQ h3; exact ⟨HP,this,fun _=>by omega⟩
   | false=>rw [h1,h2,h3] at h; simp at h
theorem zt {rs:List (Nat×Row)}:∀ {l:List Nat} {k:Nat},l.Nodup->∀ {r r' v:Nat},(r,v)∈pY rs k l->(r',v)∈pY rs k l->r=r'
 | [],k,_,r,r',v,h,_=>by cases h
 | x::l,k,hn,r,r',v,h,h'=>by
  have Qq:=(List.nodup_cons.1 hn).2
  simp only [pY] at h h'
  cases hx:lk rs x with
  | none=>rw [hx] at h h'; exact zt Qq h h'
  | some row =>
   rw [hx] at h h'
   have cross:∀ {y:Nat},(match uE x row with | true=>x | false=>500000+k)=v->(y,v)∈pY rs (k+1) l->x=y:=by
    intro y hv hy
    obtain ⟨h1,row',h2,h3⟩:=ud hy
    rcases h3 with ⟨h4,h5⟩ | ⟨h4,i,h5,h6⟩
    ·have hr:=sn h4
     cases hk:uE x row with
     | true=>rw [hk] at hv; simp only at hv; omega
     | false=>rw [hk] at hv; simp only at hv; omega
    ·cases hk:uE x row with
     | true=>have hr:=sn hk; rw [hk] at hv; simp only at hv; omega
     | false=>rw [hk] at hv; simp only at hv; omega
   rcases zI.1 h with h | h<;>rcases zI.1 h' with h' | h'
   ·simp only [zG] at h h'; rw [h.1,h'.1]
   ·simp only [zG] at h; rw [h.1]; exact cross h.2.symm h'
   ·simp only [zG] at h'; rw [h'.1]; exact (cross h'.2.symm h).symm
   ·exact zt Qq h h'
theorem xA {rs:List (Nat×Row)}:∀ {l:List Nat} {k:Nat},l.Nodup->(keys (pY rs k l)).Nodup
 | [],k,_=>by simp [pY,keys]
 | x::l,k,hn=>by
  have Qq:=List.nodup_cons.1 hn
  simp only [pY]
  cases hx:lk rs x with
  | none=>exact xA Qq.2
  | some row =>
   simp only [keys,List.nodup_cons]
   refine ⟨fun hm=> ?_,xA Qq.2⟩
   obtain ⟨v,hv⟩:=Pe hm
   exact Qq.1 (ud hv).1
theorem pg {rs:List (Nat×Row)} {k:Nat} {row:Row}:∀ {l:List (Nat×Nat)},(k,row)∈pF rs l↔∃ r,(r,k)∈l/\lk rs r=some row
 | []=>by simp [pF]
 | (x,j)::l=>by
  simp only [pF]
  cases hx:lk rs x with
  | none =>
   simp only [pg,zI,zG]
   constructor
   ·rintro ⟨r,h1,h2⟩; exact ⟨r,.inr h1,h2⟩
   ·rintro ⟨r,h1 | h1,h2⟩
    ·rw [h1.1,hx] at h2; cases h2
    ·exact ⟨r,h1,h2⟩
  | some u =>
   simp only [zI,pg,zG]
   constructor
   ·rintro (⟨h1,h2⟩ | ⟨r,h1,h2⟩)
    ·exact ⟨x,.inl ⟨rfl,h1⟩,by rw [hx,h2]⟩
    ·exact ⟨r,.inr h1,h2⟩
   ·rintro ⟨r,⟨h1,HP⟩ | h1,h2⟩
    ·rw [h1,hx] at h2; cases h2; exact .inl ⟨HP,rfl⟩
    ·exact .inr ⟨r,h1,h2⟩
theorem Od (f:Cv->Cv) (l:List (Nat×AV)) (t:Nat):lk (BE f l) t=(lk l t).map (ky f):=by
 induction l with
 | nil=>rfl
 | cons p l ih =>
  obtain ⟨k,v⟩:=p
  simp only [BE,lk,ih]
  cases Nat.beq k t<;>rfl
theorem Gc (f:Cv->Cv) (l:List (Nat×List Cv)) (t:Nat):lk (Aw f l) t=(lk l t).map (List.map f):=by
 induction l with
 | nil=>rfl
 | cons p l ih =>
  obtain ⟨k,v⟩:=p
  simp only [Aw,lk,ih,wj]
  cases Nat.beq k t<;>rfl
theorem Bv:∀ {x y:List (Nat×AV)} {k:Nat} {rs:List (Nat×Row)},QA x->m.n7 k x=(y,rs)->QA y
 | [],y,k,rs,hp,h=>by cases h; exact hp
 | (t,av)::l,y,k,rs,hp,h=>by
  have hl:QA l:=fun p hm=>hp p (zJ _ hm)
  have h0:av.plain:=hp (t,av) zO
  cases h2:m.n7 (k+64) l with
  | mk n rc =>
   have ih:=Bv hl h2
   cases av with
   | c x =>
    simp only [Lk.n7,h2] at h; cases h
    intro p yp
    rcases zI.1 yp with rfl | yp
    ·trivial
    ·exact ih p yp
   | a x =>
    simp only [Lk.n7,h2] at h; cases h
    intro p yp
    rcases zI.1 yp with rfl | yp
    ·trivial
    ·exact ih p yp
   | t x =>
    simp only [Lk.n7,h2] at h; cases h
    intro p yp
    rcases zI.1 yp with rfl | yp
    ·trivial
    ·exact ih p yp
   | g p q x=>exact h0.elim
theorem RG {f:Cv->Cv} {l:List (Nat×AV)} (h:QA l):QA (BE f l):=by
 induction l with
 | nil=>exact h
 | cons p l ih =>
  obtain ⟨k,v⟩:=p
  intro q hq
  rcases zI.1 hq with rfl | hq
  ·have:=h (k,v) zO
   cases v with
   | g=>exact this.elim
   | _=>trivial
  ·exact ih (fun p hp=>h p (zJ _ hp)) q hq
theorem Gw (s:St):∀ l:List Nat,QA (DN s l)
 | []=>fun p hp=>by cases hp
 | t::l=>fun p hp=>by
  rcases zI.1 hp with rfl | hp
  ·show (uP (s.get t)).plain
   cases s.get t<;>trivial
  ·exact Gw s l p hp
theorem DA (h:QA S.tm):pA S:=fun t p q v hl=>by have:=h _ (cO hl); exact this
theorem EW {a:Act} (hT:EC X S γ a) (t:Nat):bk S.lk γ (S.get t) (a.tmps.getD t undef):=by
 simp only [St.get]
 cases hl:lk S.tm t with
 | none=>trivial
 | some av=>exact hT.2 t av hl
theorem Hi {e0:Lk} {γ0:Gh} {w0:World} {a:Act} (ts vk:List Nat) (hI:B1 X γ0 w0 S γ a w) (h3:ZX e0 γ0 S γ) :
  QA (S.prune ts vk).tm/\∃ γ',Inv X e0 γ0 w0 (S.prune ts vk) γ' a w:=by
 classical
 simp only [St.prune]
 cases ht:S.lk.n7 600000 (DN S ts) with
 | mk tm r1 =>
  cases hv:S.lk.EB 700000 (vg S.vs vk) with
  | mk vs r2 =>
   simp only
   cases hc:fv (keys (r1++r2))&&(jx (keys (r1++r2)) (keys S.rs)&&E0 S.rs) with
   | false=>exact ⟨fun p hp=>(by cases hp),γ,(HT hI).inv fun k row _ _ h=>(by cases h)⟩
   | true =>
    simp only [zB] at hc
    obtain ⟨HC,XN,_⟩:=hc
    have HC:=gE.1 HC
    have XN:=eI.1 XN
    simp only
    obtain ⟨V1,hV1,acC⟩:=KD (X:=X) hI.rel (VT:=fun t=>a.tmps.getD t undef) (fun p hp=>by
     obtain ⟨t,av⟩:=p
     rw [DR hp]; exact yd (EW hI.tmp t)) ht
    obtain ⟨V2,Zi,HN,acF⟩:=Kt (X:=X) hI.rel (H:=fun k u=>γ.O (γ.vb k)=some (.v k)/\∃ cur e,w.heap[γ.vb k]? =some (.cells cur e (0,0))/\cur.toList=u) (fun p hp=>by
     obtain ⟨k,cs⟩:=p
     obtain ⟨h1,cur,e,h2,h3⟩:=hI.rel.vs k cs (vB hp)
     exact ⟨cur.toList,⟨h1,cur,e,h2,rfl⟩,h3⟩) hv
    have hV:=hV1.append Zi
    have TU:∀ j∈keys (r1++r2),600000<=j:=by
     intro j hj
     rw [bA,zH] at hj
     rcases hj with hj | hj
     ·have:=DM (m:=S.lk) (DN S ts) 600000 j (by rw [ht]; exact hj); omega
     ·have:=Di (m:=S.lk) (vg S.vs vk) 700000 j (by rw [hv]; exact hj); omega
    let rs:=r1++(r2++S.rs)
    let S1:St:=⟨tm,vs++S.vs,rs⟩
    let γ1:Gh:=⟨γ.O,fun k=>match lk (V1++V2) k with | some vc=>vc.1 | none=>γ.rv k,fun k=>match lk (V1++V2) k with | some vc=>vc.2 | none=>γ.cv k,γ.vb⟩
    have MV:∀ k,lk rs k=match lk (r1++r2) k with | some row=>some row | none=>lk S.rs k:=by
     intro k
     show lk (r1++(r2++S.rs)) k=_
     rw [← List.append_assoc]
     rw [tQ]
     cases lk (r1++r2) k<;>rfl
    have Va:∀ k,k∉keys (r1++r2)->lk (V1++V2) k=none:=fun k hk=>cG.2 (by rw [hV.keys]; exact hk)
    have hold:∀ r row,S.lk.r r=some row->S1.lk.r r=some row/\γ1.rv r=γ.rv r/\γ1.cv r=γ.cv r:=by
     intro r row hr
     have CU:r∉keys (r1++r2):=fun hm=>XN r hm (mem_keys (cO hr))
     refine ⟨?_,?_,?_⟩
     ·show lk rs r=_
      rw [MV,cG.2 CU]; exact hr
     ·show (match lk (V1++V2) r with | some vc=>vc.1 | none=>γ.rv r)=_
      rw [Va r CU]
     ·show (match lk (V1++V2) r with | some vc=>vc.2 | none=>γ.cv r)=_
      rw [Va r CU]
    have No:Ag S.lk γ (r1++r2) (V1++V2) S1.lk γ1:=by
     refine ⟨hold,fun k cs hk=> ?_,rfl,fun k row hm=> ?_,fun k vc hm=> ?_⟩
     ·show ∃ cs',lk (vs++S.vs) k=some cs'
      rw [tQ]
      cases lk vs k with
      | some cs'=>exact ⟨cs',rfl⟩
      | none=>exact ⟨cs,hk⟩
     ·show lk rs k=_
      rw [MV,fZ HC hm]
     ·have:lk (V1++V2) k=some vc:=fZ (by rw [hV.keys]; exact HC) hm
      exact ⟨by show (match lk (V1++V2) k with | some vc=>vc.1 | none=>γ.rv k)=_; rw [this],by show (match lk (V1++V2) k with | some vc=>vc.2 | none=>γ.cv k)=_; rw [this]⟩
    have hW1:B1 X γ0 w0 S1 γ1 a w:=by
     refine ⟨⟨fun k cs hk=> ?_,fun k row hk=> ?_⟩,hI.top,⟨hI.tmp.1,fun t av hl=> ?_⟩,hI.df,hI.fr,fun k h1 h2=> ?_,hI.i2⟩
     ·have hk:lk (vs++S.vs) k=some cs:=hk
      rw [tQ] at hk
      cases hl:lk vs k with
      | some cs' =>
       rw [hl] at hk; cases hk
       obtain ⟨u,⟨h1,cur,e,h2,rfl⟩,h4⟩:=acF S1.lk γ1 No.right (k,cs) (cO hl)
       exact ⟨h1,cur,e,h2,h4⟩
      | none =>
       rw [hl] at hk
       obtain ⟨h1,cur,e,h2,h4⟩:=hI.rel.vs k cs hk
       have:=ca.map (f:=id) (fun x v hx=>No.r8 hx) h4
       rw [List.map_id] at this
       exact ⟨h1,cur,e,h2,this⟩
     ·have hk:lk rs k=some row:=hk
      rw [MV] at hk
      cases hl:lk (r1++r2) k with
      | some row' =>
       rw [hl] at hk; cases hk
       obtain ⟨vc,h1,h2⟩:=hV.get k row hl
       show cP X γ.O w k row (match lk (V1++V2) k with | some vc=>vc.1 | none=>γ.rv k) (match lk (V1++V2) k with | some vc=>vc.2 | none=>γ.cv k)
       rw [h1]; exact h2
      | none =>
       rw [hl] at hk
       obtain ⟨_,h2,h3⟩:=hold k row hk
       rw [h2,h3]; exact hI.rel.rs k row hk
     ·exact acC S1.lk γ1 No.left (t,av) (cO hl)
     ·have CU:k∉keys (r1++r2):=fun hm=>by have:=TU k hm; omega
      show (match lk (V1++V2) k with | some vc=>vc.1 | none=>γ.rv k)=_
      rw [Va k CU]; exact hI.i4 k h1 h2
    have Sz:(oN (vcs vs) (oN (RD tm) [])).Nodup:=lg (lg List.nodup_nil)
    generalize oN (vcs vs) (oN (RD tm) [])=rl at Sz
    let μl:=pY rs 0 rl
    have hμn:(keys μl).Nodup:=xA Sz
    let f:=UB μl (keys vs)
    let T:St:=⟨BE f tm,Aw f vs,pF rs μl⟩
    let κ:Nat->Nat:=fun r=>match lk rs r with | some row=>row.ow | none=>0
    have hκ:∀ r row,lk rs r=some row->({ row with ow:=κ r }:Row)=row:=by
     intro r row hr
     have:κ r=row.ow:=by show (match lk rs r with | some row=>row.ow | none=>0)=_; rw [hr]
     rw [this]
    have hTr:∀ k row,T.lk.r k=some row->∃ r,(r,k)∈μl/\lk rs r=some row:=fun k row hk=>pg.1 (cO hk)
    have hn:WE S1 T (fun r=>lk μl r) κ f:=by
     refine ⟨fun r r' k h1 h2=>zt Sz (cO h1) (cO h2),fun k row hk=> ?_,fun r k row h1 h2=> ?_,fun r k row h1 h2=> ?_,fun k cs' hk=> ?_,fun t av' hl=> ?_,rfl,fun x=> ?_,fun r k h h1 h2=> ?_⟩
     ·obtain ⟨r,h1,h2⟩:=hTr k row hk
      exact ⟨r,row,fZ hμn h1,h2,(hκ r row h2).symm⟩
     ·have hm:(k,row)∈pF rs μl:=pg.2 ⟨r,cO h1,h2⟩
      obtain ⟨row',hl⟩:=nW hm
      obtain ⟨r',h3,h4⟩:=hTr k row' hl
      have:r'=r:=zt Sz h3 (cO h1)
      subst this
      have Js:lk rs r'=some row:=h2
      rw [Js] at h4; cases h4
      rw [hκ r' row Js]; exact hl
     ·have:κ r=row.ow:=by show (match lk rs r with | some row=>row.ow | none=>0)=_; rw [show lk rs r=some row from h2]
      rw [this]; exact J4 row.ow
     ·have hk:lk (Aw f vs) k=some cs':=hk
      rw [Gc] at hk
      cases hl:lk vs k with
      | none=>rw [hl] at hk; cases hk
      | some cs =>
       rw [hl] at hk; cases hk
       refine ⟨cs,?_,rfl⟩
       show lk (vs++S.vs) k=_
       rw [tQ,hl]
     ·have hl:lk (BE f tm) t=some av':=hl
      rw [Od] at hl
      cases xi:lk tm t with
      | none=>rw [xi] at hl; cases hl
      | some av=>rw [xi] at hl; cases hl; exact ⟨av,by first | rfl | exact xi,rfl⟩
     ·have CO:∀ k∈keys vs,∃ cs',T.lk.v k=some cs':=by
       intro k hk
       obtain ⟨cs,iX⟩:=pZ hk
       exact ⟨cs.map f,by show lk (Aw f vs) k=_; rw [Gc,iX]; rfl⟩
      cases x with
      | sw r =>
       show (match lk μl r with | some k=>Cv.sw k | none=> .un)=_\/_
       cases hl:lk μl r with
       | none=>exact .inl rfl
       | some k=>exact .inr (.inr ⟨r,k,hl,.inl ⟨rfl,by show (match lk μl r with | some k=>Cv.sw k | none=> .un)=_; rw [hl]⟩⟩)
      | sl r o n =>
       show (match lk μl r with | some k=>Cv.sl k o n | none=> .un)=_\/_
       cases hl:lk μl r with
       | none=>exact .inl rfl
       | some k=>exact .inr (.inr ⟨r,k,hl,.inr (.inl ⟨o,n,rfl,by show (match lk μl r with | some k=>Cv.sl k o n | none=> .un)=_; rw [hl]⟩)⟩)
      | nw r o n =>
       show (match lk μl r with | some k=>Cv.nw k o n | none=> .un)=_\/_
       cases hl:lk μl r with
       | none=>exact .inl rfl
       | some k=>exact .inr (.inr ⟨r,k,hl,.inr (.inr (.inl ⟨o,n,rfl,by show (match lk μl r with | some k=>Cv.nw k o n | none=> .un)=_; rw [hl]⟩))⟩)
      | ns r e c o n =>
       show (match lk μl r with | some k=>Cv.ns k e c o n | none=> .un)=_\/_
       cases hl:lk μl r with
       | none=>exact .inl rfl
       | some k=>exact .inr (.inr ⟨r,k,hl,.inr (.inr (.inr (.inl ⟨e,c,o,n,rfl,by show (match lk μl r with | some k=>Cv.ns k e c o n | none=> .un)=_; rw [hl]⟩)))⟩)
      | pe r o n =>
       show (match lk μl r with | some k=>Cv.pe k o n | none=> .un)=_\/_
       cases hl:lk μl r with
       | none=>exact .inl rfl
       | some k=>exact .inr (.inr ⟨r,k,hl,.inr (.inr (.inr (.inr (.inl ⟨o,n,rfl,by show (match lk μl r with | some k=>Cv.pe k o n | none=> .un)=_; rw [hl]⟩))))⟩)
      | pn r e c o n =>
       show (match lk μl r with | some k=>Cv.pn k e c o n | none=> .un)=_\/_
       cases hl:lk μl r with
       | none=>exact .inl rfl
       | some k=>exact .inr (.inr ⟨r,k,hl,.inr (.inr (.inr (.inr (.inr ⟨e,c,o,n,rfl,by show (match lk μl r with | some k=>Cv.pn k e c o n | none=> .un)=_; rw [hl]⟩))))⟩)
      | pv v c =>
       cases hi:mZ v 0 (keys vs) with
       | none=>exact .inl (by show (match mZ v 0 (keys vs) with | some _=>Cv.pv v c | none=> .un)=_; rw [hi])
       | some j=>exact .inr (.inl ⟨by show (match mZ v 0 (keys vs) with | some _=>Cv.pv v c | none=> .un)=_; rw [hi],rfl,fun k hk _ _=>by simp [Cv.vk] at hk; subst hk; exact CO k (Bd hi)⟩)
      | fn g caps =>
       cases hi:Bj caps (keys vs) with
       | false=>exact .inl (by show (match Bj caps (keys vs) with | true=>Cv.fn g caps | false=> .un)=_; rw [hi])
       | true=>exact .inr (.inl ⟨by show (match Bj caps (keys vs) with | true=>Cv.fn g caps | false=> .un)=_; rw [hi],rfl,fun k hk _ _=>CO k (Dq hi k hk)⟩)
      | _=>exact .inr (.inl ⟨rfl,rfl,fun k hk=>by simp [Cv.vk] at hk⟩)
     ·obtain ⟨_,row,_,h3⟩:=ud (cO h)
      rcases h3 with ⟨_,h4⟩ | ⟨_,i,_,h4⟩<;>omega
    refine ⟨RG (Bv (Gw S ts) ht),?_⟩
    obtain ⟨γ',h1,h2⟩:=hn.ok hW1
    refine ⟨γ',h1.inv fun k row vQ r9 CV Nh=> ?_⟩
    obtain ⟨r,Wz,fL⟩:=hTr k row CV
    obtain ⟨_,row',hr3,hr4⟩:=ud Wz
    rw [fL] at hr3; cases hr3
    rcases hr4 with ⟨h5,h6⟩ | ⟨_,i,_,h6⟩
    ·subst h6
     have h7:=(sn h5).2.2 Nh
     have CU:k∉keys (r1++r2):=fun hm=>by have:=TU k hm; omega
     have h8:S.lk.r k=some row:=by rw [MV,cG.2 CU] at fL; exact fL
     obtain ⟨i1,i2,i3⟩:=h3 k row h7 r9 h8 Nh
     obtain ⟨j1,j2⟩:=h2 k k row (fZ hμn Wz) fL
     obtain ⟨_,j3,j4⟩:=hold k row h8
     exact ⟨i1,by rw [j1,j3,i2],by rw [j2,j4,i3]⟩
    ·omega
def U8:Ex->Exit
 | .normal=> .normal | .exit i=> .exit i | .ret=> .ret
def loops:Code->List Code
 | .loop c=>c::loops c
 | .seq a b=>loops a++loops b
 | .cond _ a b=>loops a++loops b
 | .block _ a=>loops a
 | _=>[]
theorem gq (n:Nat):∀ c:Code,getLoop n c=(loops c).find? fun d=>Nat.beq (dG d) n
 | .loop c=>by
  simp only [getLoop,loops,List.find?_cons,gq n c]
  cases Nat.beq (dG c) n<;>rfl
 | .seq a b=>by
  simp only [getLoop,loops,List.find?_append,gq n a,gq n b]
  cases (loops a).find? fun d=>Nat.beq (dG d) n<;>rfl
 | .cond _ a b=>by
  simp only [getLoop,loops,List.find?_append,gq n a,gq n b]
  cases (loops a).find? fun d=>Nat.beq (dG d) n<;>rfl
 | .block _ a=>by simp only [getLoop,loops,gq n a]
 | .skip=>rfl
 | .region .. =>rfl
 | .exit _=>rfl
 | .ret=>rfl
 | .rangeFunc .. =>rfl
 | .scope _=>rfl
 | .label _=>rfl
 | .goto _=>rfl
 | .refuse _=>rfl
theorem jd:∀ {b c:Code},c∈loops b->∀ d∈loops c,d∈loops b
 | .loop a,c,h,d,hd=>by
  simp only [loops,zI] at h ⊢
  rcases h with rfl | h
  ·exact .inr hd
  ·exact .inr (jd h d hd)
 | .seq a b,c,h,d,hd=>by
  simp only [loops,zH] at h ⊢
  exact h.imp (fun h=>jd h d hd) (fun h=>jd h d hd)
 | .cond _ a b,c,h,d,hd=>by
  simp only [loops,zH] at h ⊢
  exact h.imp (fun h=>jd h d hd) (fun h=>jd h d hd)
 | .block _ a,c,h,d,hd=>by simp only [loops] at h ⊢; exact jd h d hd
 | .skip,c,h,_,_=>by simp [loops] at h
 | .region ..,c,h,_,_=>by simp [loops] at h
 | .exit _,c,h,_,_=>by simp [loops] at h
 | .ret,c,h,_,_=>by simp [loops] at h
 | .rangeFunc ..,c,h,_,_=>by simp [loops] at h
 | .scope _,c,h,_,_=>by simp [loops] at h
 | .label _,c,h,_,_=>by simp [loops] at h
 | .goto _,c,h,_,_=>by simp [loops] at h
 | .refuse _,c,h,_,_=>by simp [loops] at h
def tX (c:Code):List Nat:=rW dG (loops c)
theorem Gx {n:Nat} {b c:Code} (h:getLoop n b=some c):c∈loops b/\dG c=n:=by
 rw [gq] at h
 exact ⟨List.mem_of_find?_eq_some h,aG (List.find?_some (p:=fun d=>Nat.beq (dG d) n) h)⟩
theorem BH {b c:Code} (hn:fv (tX b)=true) (h:c∈loops b):getLoop (dG c) b=some c:=by
 have HO:=gE.1 hn
 simp only [tX,wj] at HO
 rw [gq]
 clear hn
 revert HO h
 generalize loops b=l
 intro h hn
 induction l with
 | nil=>cases h
 | cons x l ih =>
  simp only [List.map_cons,List.nodup_cons] at hn
  rw [List.find?_cons]
  rcases zI.1 h with rfl | h
  ·rw [Nat.beq_refl]
  ·have cR:Nat.beq (dG x) (dG c)=false:=by
    cases hb:Nat.beq (dG x) (dG c) with
    | false=>rfl
    | true=>exact absurd (List.mem_map.2 ⟨c,h,(aG hb).symm⟩) hn.1
   rw [cR]; exact ih h hn.2
section
variable {R:Type} {E:Env R} {L:Live} {body:Code} {lps:Nat->Loop R}
structure GH (X:Ctx) (E:Env R) (L:Live) (body:Code) (lps:Nat->Loop R):Prop where
 z:∀ id i l,lps 0 id i l=fun _=>none
 s:∀ n id i l,lps (n+1) id i l=(fun _=>none)\/∃ c,getLoop id body=some c/\lps (n+1) id i l=round X E L (lps n) c i l
 nd:fv (tX body)=true
theorem wW (hE:∀ f cf cH,gx (E.fn f cf cH)) (hl:GH X E L body lps):∀ n id i l,gx (fun k:Ex×St->Option R=>lps n id i l fun e s=>k (e,s))
 | 0,id,i,l=>by rw [hl.z]; exact gx.none
 | n+1,id,i,l=>by
  rcases hl.s n id i l with h | ⟨c,_,h⟩
  ·rw [h]; exact gx.none
  ·rw [h]; exact Me hE (wW hE hl n) c i l
variable {e0:Lk} {γ0:Gh} {w0:World}
theorem DH {k:Sk}:∀ {l:List Sk} {n i:Nat},Ak k n l=some i->∃ sk,n<=i/\l[i-n]? =some sk/\Hm k sk=true
 | [],n,i,h=>by cases h
 | s::l,n,i,h=>by
  simp only [Ak] at h
  cases hs:Hm k s with
  | true=>rw [hs] at h; cases h; exact ⟨s,Nat.le_refl _,by simp,hs⟩
  | false =>
   rw [hs] at h
   obtain ⟨sk,h1,h2,h3⟩:=DH h
   refine ⟨sk,by omega,?_,h3⟩
   rw [show i-n=(i-(n+1))+1 by omega]; simpa using h2
def LpR (X:Ctx) (E:Env R) (L:Live) (body:Code) (lps:Nat->Loop R) (e0:Lk) (γ0:Gh) (w0:World) (n:Nat):Prop :=
 ∀ (c:Code) (A:Wc) (i:Nat) (l:List mX) (sk:Sk) (s:St) (e:Ex) (s':St) (γ:Gh) (a:Act) (w:World) (Q:Exit->Act->World->Prop),getLoop (dG c) body=some c->lk L (dG c)=some A ->
  nth A.sk i=some sk->AE sk l=some s->pA s->Inv X e0 γ0 w0 s γ a w->(∀ K:Ex×St->Option R,(lps n (dG c) i l fun e s=>K (e,s))=K (e,s')) ->
  (pA s'->∀ γ' a' w',Inv X e0 γ0 w0 s' γ' a' w'->Q (U8 e) a' w')->Code.rounds X.P c Q n a w
theorem Kk (r0:R) {n:Nat} (hl:LpR X E L body lps e0 γ0 w0 n) {c:Code} (hc:getLoop (dG c) body=some c) {s:St} {e:Ex} {s':St} {γ:Gh} {a:Act} {w:World} {Q:Exit->Act->World->Prop}
  (hI:Inv X e0 γ0 w0 s γ a w) (hK:∀ K:Ex×St->Option R,(exec X E L (lps n) (.loop c) s fun e s=>K (e,s))=K (e,s'))
  (hQ:pA s'->∀ γ' a' w',Inv X e0 γ0 w0 s' γ' a' w'->Q (U8 e) a' w'):Code.rounds X.P c Q n a w:=by
 simp only [exec] at hK
 cases hA:lk L (dG c) with
 | none=>simp only [hA] at hK; exact (bM r0 hK).elim
 | some A =>
  simp only [hA] at hK
  obtain ⟨γ1,hW,h3⟩:=LU A.fz hI
  obtain ⟨hng,γ2,TC⟩:=Hi A.ts A.vk hW h3
  revert hK
  generalize hS1:(s.freeze A.fz).prune A.ts A.vk=S1 at hng TC
  intro hK
  cases hf:flat S1 with
  | mk k l =>
   simp only [hf] at hK
   cases hfo:Ak k 0 A.sk with
   | none=>simp only [hfo] at hK; exact (bM r0 hK).elim
   | some i =>
    simp only [hfo] at hK
    obtain ⟨sk,_,h2,h4⟩:=DH hfo
    have h4':Hm (flat S1).1 sk=true:=by rw [hf]; exact h4
    obtain ⟨γ3,hI3⟩:=L7 h4' TC
    have hu:AE sk l=some ⟨S1.tm,S1.vs,sU S1.rs sk.rs⟩:=by
     have:=LP hng h4'; rw [hf] at this; exact this
    exact hl c A i l sk _ e s' γ3 a w Q hc hA (by rw [ic]; simpa using h2) hu (DA (S:=⟨S1.tm,S1.vs,sU S1.rs sk.rs⟩) hng) hI3 hK hQ
theorem qC (r0:R) (hX:iy X) (hE:sM X E) (QJ:GH X E L body lps) {n:Nat} (hl:LpR X E L body lps e0 γ0 w0 n) :
  ∀ (c:Code) (s:St) (e:Ex) (s':St) (γ:Gh) (a:Act) (w:World) (Q:Exit->Act->World->Prop),(∀ d∈loops c,getLoop (dG d) body=some d)->pA s->Inv X e0 γ0 w0 s γ a w ->
   (∀ K:Ex×St->Option R,(exec X E L (lps n) c s fun e s=>K (e,s))=K (e,s')) ->
   (pA s'->∀ γ' a' w',Inv X e0 γ0 w0 s' γ' a' w'->Q (U8 e) a' w')->c.wp X.P Q a w
 | .skip,s,e,s',γ,a,w,Q,_,hg,hI,hK,hQ=>by
  have:=iU r0 hK; cases this
  exact wp_skip (hQ hg γ a w hI)
 | .exit id,s,e,s',γ,a,w,Q,_,hg,hI,hK,hQ=>by
  have:=iU r0 hK; cases this
  exact wp_exit (hQ hg γ a w hI)
 | .ret,s,e,s',γ,a,w,Q,_,hg,hI,hK,hQ=>by
  have:=iU r0 hK; cases this
  exact wp_ret (hQ hg γ a w hI)
 | .region id ops draw,s,e,s',γ,a,w,Q,_,hg,hI,hK,hQ=>by
  simp only [exec] at hK
  obtain ⟨oc,ry⟩:=yy (X:=X) hE.FA ops draw s
  cases oc with
  | none=>exact (bM r0 (α:=Ex×St) (y:=(e,s')) fun K=>(ry fun s=>K (.normal,s)).symm.trans (hK K)).elim
  | some s1 =>
   have:(Ex.normal,s1)=(e,s'):=iU r0 fun K=>(ry fun s=>K (.normal,s)).symm.trans (hK K)
   cases this
   exact UZ r0 hX hE ry hg hI hQ
 | .seq x y,s,e,s',γ,a,w,Q,hd,hg,hI,hK,hQ=>by
  simp only [exec] at hK
  obtain ⟨oc,ry⟩:=jh hE.FA (fun c i l=>wW hE.FA QJ n c i l) x s
  have hdx:∀ d∈loops x,getLoop (dG d) body=some d:=fun d h=>hd d (by simp only [loops,zH]; exact .inl h)
  have SB:∀ d∈loops y,getLoop (dG d) body=some d:=fun d h=>hd d (by simp only [loops,zH]; exact .inr h)
  let F:(Ex×St->Option R)->Ex×St->Option R:=fun K x=>match x.1 with
   | .normal=>exec X E L (lps n) y x.2 fun e s=>K (e,s)
   | e=>K (e,x.2)
  have hF:∀ K,oc.bind (F K)=K (e,s'):=fun K=>(ry (F K)).symm.trans (hK K)
  cases oc with
  | none=>exact (bM r0 hF).elim
  | some x1 =>
   obtain ⟨e1,s1⟩:=x1
   refine wp_seq (qC r0 hX hE QJ hl x s e1 s1 γ a w _ hdx hg hI ry fun Hz γ1 a1 w1 Nm=> ?_)
   cases e1 with
   | normal=>exact qC r0 hX hE QJ hl y s1 e s' γ1 a1 w1 Q SB Hz Nm hF hQ
   | exit i =>
    have:=iU r0 hF; cases this
    exact hQ Hz γ1 a1 w1 Nm
   | ret =>
    have:=iU r0 hF; cases this
    exact hQ Hz γ1 a1 w1 Nm
 | .cond c x y,s,e,s',γ,a,w,Q,hd,hg,hI,hK,hQ=>by
  have hdx:∀ d∈loops x,getLoop (dG d) body=some d:=fun d h=>hd d (by simp only [loops,zH]; exact .inl h)
  have SB:∀ d∈loops y,getLoop (dG d) body=some d:=fun d h=>hd d (by simp only [loops,zH]; exact .inr h)
  simp only [exec] at hK
  revert hK; split
  ·rename_i b hb
   intro hK
   have hv:=sr (s':=s) hI.tmp (vA hg) (fun _ _ h=>h) (p:=[]) (fun x hx=>by cases hx) 0 c
   rw [hb] at hv
   have hv:a.eval c= .bool b:=hv
   cases b with
   | true=>exact wp_cond hv (qC r0 hX hE QJ hl x s e s' γ a w Q hdx hg hI hK hQ)
   | false=>exact wp_cond hv (qC r0 hX hE QJ hl y s e s' γ a w Q SB hg hI hK hQ)
  ·intro hK; exact (bM r0 hK).elim
 | .block id c,s,e,s',γ,a,w,Q,hd,hg,hI,hK,hQ=>by
  simp only [exec] at hK
  obtain ⟨oc,ry⟩:=jh hE.FA (fun c i l=>wW hE.FA QJ n c i l) c s
  let F:(Ex×St->Option R)->Ex×St->Option R:=fun K x=>match x.1 with
   | .exit i=>match Nat.beq i id with
    | true=>K (.normal,x.2)
    | false=>K (x.1,x.2)
   | e=>K (e,x.2)
  have hF:∀ K,oc.bind (F K)=K (e,s'):=fun K=>(by
   refine (ry (F K)).symm.trans (Eq.trans ?_ (hK K))
   congr 1)
  cases oc with
  | none=>exact (bM r0 hF).elim
  | some x1 =>
   obtain ⟨e1,s1⟩:=x1
   refine wp_block (qC r0 hX hE QJ hl c s e1 s1 γ a w _ hd hg hI ry fun Hz γ1 a1 w1 Nm=> ?_)
   cases e1 with
   | normal =>
    have:=iU r0 hF; cases this
    exact hQ Hz γ1 a1 w1 Nm
   | ret =>
    have:=iU r0 hF; cases this
    exact hQ Hz γ1 a1 w1 Nm
   | exit i =>
    have hF:∀ K:Ex×St->Option R,(match Nat.beq i id with | true=>K (.normal,s1) | false=>K (.exit i,s1))=K (e,s'):=hF
    show (if i=id then Q .normal a1 w1 else Q (.exit i) a1 w1)
    cases hb:Nat.beq i id with
    | true =>
     have:=aG hb; subst this
     rw [if_pos rfl]
     simp only [hb] at hF
     have:=iU r0 hF; cases this
     exact hQ Hz γ1 a1 w1 Nm
    | false =>
     have cR:i≠id:=fun h=>by subst h; rw [Nat.beq_refl] at hb; cases hb
     rw [if_neg cR]
     simp only [hb] at hF
     have:=iU r0 hF; cases this
     exact hQ Hz γ1 a1 w1 Nm
 | .loop c,s,e,s',γ,a,w,Q,hd,hg,hI,hK,hQ =>
  wp_loop_rounds n (Kk r0 hl (hd c (by simp only [loops]; exact zO)) hI hK hQ)
 | .rangeFunc ..,s,e,s',γ,a,w,Q,_,hg,hI,hK,hQ=>(bM r0 hK).elim
 | .scope _,s,e,s',γ,a,w,Q,_,hg,hI,hK,hQ=>(bM r0 hK).elim
 | .label _,s,e,s',γ,a,w,Q,_,hg,hI,hK,hQ=>(bM r0 hK).elim
 | .goto _,s,e,s',γ,a,w,Q,_,hg,hI,hK,hQ=>(bM r0 hK).elim
 | .refuse _,s,e,s',γ,a,w,Q,_,hg,hI,hK,hQ=>(bM r0 hK).elim
theorem Hc {s:St} {γ:Gh} {a:Act} {w:World} (A:Wc) (e:Ex) (hg:pA s) (hI:Inv X e0 γ0 w0 s γ a w):pA (A.leave e s)/\∃ γ',Inv X e0 γ0 w0 (A.leave e s) γ' a w:=by
 simp only [Wc.leave]
 cases lk A.out e.num with
 | none=>exact ⟨hg,γ,hI⟩
 | some p =>
  obtain ⟨ts,vk⟩:=p
  obtain ⟨h1,h2⟩:=Hi ts vk hI.R2 fun k row h1 h2=>hI.i3 k row (by omega) h2
  exact ⟨DA h1,h2⟩
theorem lpR (r0:R) (hX:iy X) (hE:sM X E) (hl:GH X E L body lps):∀ n,LpR X E L body lps e0 γ0 w0 n
 | 0=>by
  intro c A i l sk s e s' γ a w Q hc hA TI hu hg hI hK hQ
  rw [hl.z] at hK
  exact (bM r0 hK).elim
 | n+1=>by
  intro c A i l sk s e s' γ a w Q hc hA TI hu hg hI hK hQ
  have ih:=lpR r0 hX hE hl n
  rcases hl.s n (dG c) i l with h | ⟨c',lD,h⟩
  ·rw [h] at hK; exact (bM r0 hK).elim
  ·rw [hc] at lD; cases lD
   rw [h] at hK
   simp only [round,hA,TI,hu] at hK
   obtain ⟨oc,ry⟩:=jh hE.FA (fun c i l=>wW hE.FA hl n c i l) c s
   let F:(Ex×St->Option R)->Ex×St->Option R:=fun K x=>match x.1 with
    | .normal=>exec X E L (lps n) (.loop c) x.2 fun e s=>K (e,s)
    | e=>K (e,A.leave e x.2)
   have hF:∀ K,oc.bind (F K)=K (e,s'):=fun K=>(ry (F K)).symm.trans (hK K)
   have QQ:=(Gx hc).1
   have hd:∀ d∈loops c,getLoop (dG d) body=some d:=fun d h=>BH hl.nd (jd QQ d h)
   cases oc with
   | none=>exact (bM r0 hF).elim
   | some x1 =>
    obtain ⟨e1,s1⟩:=x1
    rw [rounds_succ]
    refine qC r0 hX hE hl ih c s e1 s1 γ a w _ hd hg hI ry fun Hz γ1 a1 w1 Nm=> ?_
    cases e1 with
    | normal=>exact Kk r0 ih hc Nm hF hQ
    | exit j =>
     have:=iU r0 hF; cases this
     obtain ⟨h1,γ2,h2⟩:=Hc A (.exit j) Hz Nm
     exact hQ h1 γ2 a1 w1 h2
    | ret =>
     have:=iU r0 hF; cases this
     obtain ⟨h1,γ2,h2⟩:=Hc A .ret Hz Nm
     exact hQ h1 γ2 a1 w1 h2
end
end Go.Soft
namespace Go.Soft
open Go
variable {X:Ctx} {m M:Lk} {γ γ':Gh} {w w':World} {ρ:Operand->Value} {S T:St} {δ δ':Dl}
theorem cP.pre {O:OM} {k d:Nat} {τ:Ty} {xs:List (El τ)} {v u:Value} {cs:List Value} (hd:rT d=true) (h:cP X O w k ⟨τ,xs,d⟩ v cs) {len:Nat} (hle:len<=xs.length) (hs:AN (sz τ) v 0 len u) :
  cP X O w k ⟨τ,sub xs 0 len,d⟩ u (cs.take (len*sz τ)):=by
 have hl:(sub xs 0 len).length=len:=kG xs (by omega)
 have own:∀ t,w.ownsRow 0 (X.id τ) (sz τ) v xs.length cs->(∀ g,v.ownBlock=some g->O g=some t)->w.ownsRow 0 (X.id τ) (sz τ) u len (cs.take (len*sz τ))/\∀ g,u.ownBlock=some g->O g=some t:=by
  intro t ho hb
  rcases hs with ⟨rfl,rfl,rfl⟩ | ⟨g,o,n,cap,o',cap',rfl,rfl,⟨h1,h2⟩,h3,h4,_⟩
  ·exact ⟨by simpa using World.ownsRow_nil w 0 _ _,by simp [Value.ownBlock]⟩
  ·obtain ⟨hlen,ho⟩:=ho
   rcases ho with ⟨hn,_⟩ | ⟨g',cap2,cur,hv,MH,hg,HM,hmx,mi,ht⟩
   ·cases hn
   ·injection hv with e1 e2 e3
    injection e1 with e1
    injection e1 with e4 e5 _
    subst e4; subst e5; subst e3
    have MO:o'=0:=by omega
    subst MO
    have CQ:cap'=cap:=by omega
    subst CQ
    have hm:len*sz τ<=xs.length*sz τ:=zP _ hle
    refine ⟨⟨by rw [List.length_take]; omega,.inr ⟨g,cap',cur,rfl,MH,hg,h1,hmx,mi,?_⟩⟩,fun b YE=>hb b (by simpa [Value.ownBlock] using YE)⟩
    rw [← ht,List.take_take]; congr 1; omega
 refine ⟨?_,fun e c ct he hc=> ?_⟩
 ·show Sl X O w (dO k d) τ u (sub xs 0 len).length _
  rw [hl]
  have ht:=h.top
  rcases lY hd with rfl | rfl | rfl
  ·have ht:zz (fun g=>In .fz (O g)) w (sz τ) v xs.length cs:=ht
   have h2:=ht.sub (off:=0) (len:=len) (by omega) hs
   have h3:zz (fun g=>In .fz (O g)) w (sz τ) u len (cs.take (len*sz τ)):=by simpa using h2
   exact h3
  ·exact own _ ht.1 ht.2
  ·exact own _ ht.1 ht.2
 ·have he:e<(sub xs 0 len).length:=he
  rw [hl] at he
  have hc:(cells τ ((sub xs 0 len).getD e (ch τ)))[c]? =some ct:=hc
  rw [sR xs _ he,Nat.zero_add] at hc
  obtain ⟨x,hx,hr⟩:=h.rG e c ct (show e<xs.length by omega) hc
  refine ⟨x,?_,hr⟩
  have lD:c<sz τ:=by have:=(zU.1 hc).1; rwa [bd] at this
  have:e*sz τ+c<len*sz τ:=by
   have:=zP (sz τ) (show e+1<=len from he)
   rw [Nat.add_mul] at this; omega
  show (cs.take (len*sz τ))[e*sz τ+c]? =_
  rw [List.getElem?_take,if_pos this]; exact hx
theorem UQ {off w:Nat} (h:YW off w=true):rT w=true:=by
 cases off with
 | zero=>exact h
 | succ o=>have:w=3:=aG h; subst this; rfl
theorem cP.part {O:OM} {k d:Nat} {τ:Ty} {xs:List (El τ)} {v u:Value} {cs:List Value} {off len:Nat} (hd:YW off d=true) (h:cP X O w k ⟨τ,xs,d⟩ v cs) (hle:off+len<=xs.length) (hs:AN (sz τ) v off len u) :
  ∃ cs',cP X O w k ⟨τ,sub xs off len,d⟩ u cs':=by
 cases off with
 | zero=>exact ⟨_,h.pre hd (by omega) hs⟩
 | succ o =>
  have MT:d=3:=aG hd
  subst MT
  have hl:(sub xs (o+1) len).length=len:=kG xs hle
  have ht:zz (fun g=>In .fz (O g)) w (sz τ) v xs.length cs:=h.top
  have h2:=ht.sub (off:=o+1) (len:=len) hle hs
  refine ⟨((cs.drop ((o+1)*sz τ)).take (len*sz τ)),?_,fun e c ct he hc=> ?_⟩
  ·show Sl X O w (dO k 3) τ u (sub xs (o+1) len).length _
   rw [hl]
   exact h2
  ·have he:e<(sub xs (o+1) len).length:=he
   rw [hl] at he
   have hc:(cells τ ((sub xs (o+1) len).getD e (ch τ)))[c]? =some ct:=hc
   rw [sR xs _ he] at hc
   obtain ⟨x,hx,hr⟩:=h.rG (o+1+e) c ct (show o+1+e<xs.length by omega) hc
   refine ⟨x,?_,hr⟩
   have lD:c<sz τ:=by have:=(zU.1 hc).1; rwa [bd] at this
   have:e*sz τ+c<len*sz τ:=by
    have:=zP (sz τ) (show e+1<=len from he)
    rw [Nat.add_mul] at this; omega
   show ((cs.drop ((o+1)*sz τ)).take (len*sz τ))[e*sz τ+c]? =_
   rw [List.getElem?_take,if_pos this,List.getElem?_drop,← Nat.add_assoc,← Nat.add_mul]; exact hx
def Xc (G:List (Nat×Nat)):Rb:=⟨fun r=>some (r,match lk G r with | some d=>d | none=>5),none,fun k=>some (.v k)⟩
def mD (G:List (Nat×Nat)) (O:OM):OM:=fun g=>(O g).bind (Xc G).f
theorem Np {G:List (Nat×Nat)} {r:Nat} (h:r∉keys G):(Xc G).r r=some (r,5):=by
 show some (r,match lk G r with | some d=>d | none=>5)=_
 rw [cG.2 h]
theorem Pr {G:List (Nat×Nat)} {O:OM} {r g:Nat} (h:r∉keys G) (hf:MA r (O g)):MA r (mD G O g):=by
 have e1:(Xc G).f (.r r)=some (.r r):=by simp only [Rb.f,Np h]; rfl
 have e2:∀ e c,(Xc G).f (.n r e c)=some (.n r e c):=fun e c=>by simp only [Rb.f,Np h]; rfl
 simp only [mD]
 rcases hf with hf | hf | hf | ⟨e,c,hf⟩<;>rw [hf]
 ·exact .inl rfl
 ·exact .inr (.inl rfl)
 ·exact .inr (.inr (.inl e1))
 ·exact .inr (.inr (.inr ⟨e,c,e2 e c⟩))
theorem tG (hR:Rel X m γ w) {G:List (Nat×Nat)} {r d:Nat} {row:Row} (hr:m.r r=some row) (hG:lk G r=some d) (hle:nF d row.ow=true) :
  cP X (mD G γ.O) w r { row with ow:=d } (γ.rv r) (γ.cv r) :=
 (hR.rs r row hr).relabel (a:=Xc G) (fun _=>by show some (r,match lk G r with | some d=>d | none=>5)=_; rw [hG]) hle fun g o hg _=>⟨hg,rfl⟩
section
variable {e0:Lk} {γ0:Gh} {w0:World} {a:Act}
theorem Hp {r p j:Nat} (h:QU r=some (p,j)):r=100000+p*64+j/\j<64/\100000<=r/\r<200000:=by
 simp only [QU] at h
 revert h; split
 ·rename_i h1 h2
  intro h
  have h1:=zQ h1
  have h2:=zQ h2
  simp only [zA,zG] at h
  obtain ⟨rfl,rfl⟩:=h
  omega
 ·intro h; cases h
theorem AB {r:Nat} (h:m.OY r=true):∃ row,m.r r=some row/\row.ow=1:=by
 simp only [Lk.OY] at h
 cases hr:m.r r with
 | none=>rw [hr] at h; cases h
 | some row=>rw [hr] at h; exact ⟨row,rfl,aG h⟩
theorem Sj (hI:Inv X e0 γ0 w0 S γ a w) {x:Cv} {y:Ct} {v:Value} (hx:bq S.lk γ x v) (h:(S.lk.vw x).ct=some y) {G:List (Nat×Nat)} (hs:∀ r∈x.rk,r∉keys G) :
  rJ X e0 γ0 (keys G) (mD G γ.O) w 1 (.m y) v []:=by
 refine ⟨rfl,hx.one hI.rel,?_⟩
 cases y with
 | l τ xs =>
  have ⟨⟨cs,hv⟩,_⟩:=As (Le.refl _) hI.rel hx h
  refine ⟨cs,hv.mono fun g o hg ha=>⟨hg,?_⟩⟩
  simp only [UD] at ha
  cases hr:x.row with
  | none=>rw [hr] at ha; exact ha.elim
  | some r =>
   rw [hr] at ha
   have CU:=hs r (by simp [Cv.rk,hr])
   exact ⟨r,CU,Pr CU ha⟩
 | _=>revert h; cases S.lk.vw x<;>simp [Vw.ct]
theorem JI (hI:Inv X e0 γ0 w0 S γ a w) {wd:Nat} {x:Cv} {y:Rc} {ks:List Nat} {v:Value} (hx:bq S.lk γ x v) (h:S.lk.uy wd x=some (y,ks)) {G:List (Nat×Nat)} (hG:∀ r∈ks,lk G r=some wd)
  (hs:wd=1->∀ r∈x.rk,r∉keys G):rJ X e0 γ0 (keys G) (mD G γ.O) w wd y v ks:=by
 have one:=hx.one hI.rel
 have unk:∀ {y:Rc} {ks:List Nat},some (Rc.un,([]:List Nat))=some (y,ks)->rJ X e0 γ0 (keys G) (mD G γ.O) w wd y v ks:=by
  intro y ks h; cases h; exact ⟨rfl,one⟩
 have own:∀ {y:Rc} {ks:List Nat} {τ:Ty} {xs:List (El τ)} {r:Nat} {cs:List Value},rT wd=true->cP X (mD G γ.O) w r ⟨τ,xs,wd⟩ v cs->some (Rc.c (.l τ xs),[r])=some (y,ks)->rJ X e0 γ0 (keys G) (mD G γ.O) w wd y v ks:=by
  intro y ks τ xs r cs hd hr h
  cases h
  exact ⟨.inl hd,.inr ⟨r,cs,rfl,hr⟩⟩
 have mm:∀ {y:Rc} {ks:List Nat},wd=1->(match (S.lk.vw x).ct with | some y=>some (Rc.m y,([]:List Nat)) | none=>none)=some (y,ks)->rJ X e0 γ0 (keys G) (mD G γ.O) w wd y v ks:=by
  intro y ks h1 h
  cases hc:(S.lk.vw x).ct with
  | none=>rw [hc] at h; cases h
  | some c=>rw [hc] at h; cases h; subst h1; exact Sj hI hx hc (hs rfl)
 cases x with
 | un =>
  simp only [Lk.uy] at h
  revert h; split
  ·exact unk
  ·intro h; cases h
 | b z=>cases h; exact ⟨rfl,hx⟩
 | i k n=>cases h; exact ⟨rfl,hx⟩
 | s z=>cases h; exact ⟨rfl,hx⟩
 | nl τ =>
  simp only [Lk.uy] at h
  revert h; split
  ·intro h; cases h
   exact ⟨rfl,one,[],⟨by simp,.inl ⟨hx,rfl⟩⟩,fun e c ct he=>by simp at he⟩
  ·exact unk
  ·intro h; cases h; exact ⟨.inr rfl,.inl ⟨rfl,hx,rfl⟩⟩
  ·cases hd:rT wd with
   | false=>intro h; cases h
   | true=>intro h; cases h; exact ⟨.inl hd,.inl ⟨rfl,hx,rfl⟩⟩
 | sw r =>
  obtain ⟨⟨row,hr⟩,hv⟩:=hx
  simp only [Lk.uy] at h
  revert h; split
  ·exact mm rfl
  ·exact unk
  ·split
   ·rename_i p j hk hb
    intro h; cases h
    obtain ⟨h1,h2,h3,h4⟩:=Hp hk
    obtain ⟨row',cz,ho⟩:=AB hb
    rw [hr] at cz; cases cz
    obtain ⟨i1,i2,i3⟩:=hI.i3 r row h3 (by omega) hr ho
    subst h1
    exact ⟨rfl,row,h2,h4,i1,by rw [hv,i2]⟩
   ·intro h; cases h
  ·rw [hr]; simp only
   cases hd:rT wd with
   | false=>intro h; cases h
   | true =>
    cases hle:nF wd row.ow with
    | false=>intro h; cases h
    | true =>
     intro h
     have bo:=tG hI.rel (G:=G) hr (d:=wd) (hG r (by cases h; simp)) hle
     rw [← hv] at bo
     exact own hd bo h
 | sl r off len =>
  obtain ⟨row,hr,aci,rZ⟩:=hx
  simp only [Lk.uy] at h
  revert h; split
  ·exact mm rfl
  ·exact unk
  ·intro h; cases h
  ·simp only [hr]
   cases hd:YW off wd with
   | false=>intro h; cases h
   | true =>
    cases hle:nF wd row.ow with
    | false=>intro h; cases h
    | true =>
     intro h
     have bo:=tG hI.rel (G:=G) hr (d:=wd) (hG r (by cases h; simp)) hle
     obtain ⟨cs',hp⟩:=bo.part hd aci rZ
     exact own (UQ hd) hp h
 | nw r e c =>
  obtain ⟨row,τ,ys,hr,he,hc,hu⟩:=hx
  simp only [Lk.uy] at h
  revert h; split
  ·exact mm rfl
  ·exact unk
  ·split
   ·rename_i p j hk hb
    intro h; cases h
    obtain ⟨h1,h2,h3,h4⟩:=Hp hk
    obtain ⟨row',cz,ho⟩:=AB hb
    rw [hr] at cz; cases cz
    obtain ⟨i1,i2,i3⟩:=hI.i3 r row h3 (by omega) hr ho
    subst h1
    exact ⟨rfl,row,τ,ys,h2,h4,i1,he,hc,by rw [← i3]; exact hu⟩
   ·intro h; cases h
  ·intro h; cases h
 | ns r e c off len =>
  simp only [Lk.uy] at h
  revert h; split
  ·exact mm rfl
  ·exact unk
  ·intro h; cases h
  ·intro h; cases h
 | pv k c =>
  simp only [Lk.uy] at h
  revert h; split
  ·exact mm rfl
  ·exact unk
  ·intro h; cases h
  ·intro h; cases h
 | pe r e c =>
  simp only [Lk.uy] at h
  revert h; split
  ·exact mm rfl
  ·exact unk
  ·intro h; cases h
  ·intro h; cases h
 | pn r e c k d =>
  simp only [Lk.uy] at h
  revert h; split
  ·exact mm rfl
  ·exact unk
  ·intro h; cases h
  ·intro h; cases h
 | fn f caps =>
  simp only [Lk.uy] at h
  revert h; split
  ·exact mm rfl
  ·exact unk
  ·intro h; cases h
  ·intro h; cases h
def Wa (ks:List Nat) (d:Nat):List (Nat×Nat):=ks.map fun r=>(r,d)
theorem AP (ks:List Nat) (d:Nat):keys (Wa ks d)=ks:=by simp [Wa,keys_eq,Function.comp_def]
theorem Ee {ks:List Nat} {d:Nat} {G:List (Nat×Nat)} (h:∀ p∈Wa ks d,lk G p.1=some p.2):∀ r∈ks,lk G r=some d:=fun r hr=>h (r,d) (List.mem_map.2 ⟨r,hr,rfl⟩)
theorem wQ (hI:Inv X e0 γ0 w0 S γ a w):∀ {l:List Cv} {us:List Value} {ms:List Nat} {ys:List Rc} {ks:List Nat},ca S.lk γ l us->S.lk.uD ms l=some (ys,ks) ->
  ∃ g,keys g=ks/\∀ G,(∀ p∈g,lk G p.1=some p.2)->(∀ r∈Cp ms l,r∉keys G)->m6 X e0 γ0 (keys G) (mD G γ.O) w ms ys us ks
 | [],us,ms,ys,ks,hl,h=>by cases hl; cases h; exact ⟨[],rfl,fun G _ _=> .nil⟩
 | x::l,us,ms,ys,ks,hl,h=>by
  cases hl with
  | cons hx hl =>
   simp only [Lk.uD] at h
   cases h1:S.lk.uy (hd ms) x with
   | none=>simp [h1] at h
   | some p =>
    obtain ⟨y,k⟩:=p
    cases h2:S.lk.uD (tl ms) l with
    | none=>simp [h1,h2] at h
    | some q =>
     obtain ⟨yl,kl⟩:=q
     simp only [h1,h2,zA,zG] at h
     obtain ⟨rfl,rfl⟩:=h
     obtain ⟨g,hg,ih⟩:=wQ hI hl h2
     refine ⟨Wa k (hd ms)++g,by rw [bA,AP,hg],fun G hG hs=> .cons (JI hI hx h1 (Ee fun p hp=>hG p (List.mem_append_left _ hp)) fun hm r hr=>hs r ?_) (ih G (fun p hp=>hG p (List.mem_append_right _ hp)) fun r hr=>hs r ?_)⟩
     ·simp only [Cp,hm,zH]; exact .inl hr
     ·simp only [Cp,zH]; exact .inr hr
theorem Gp (hI:Inv X e0 γ0 w0 S γ a w):∀ {l:List (Bool×List Cv)} {us:List Value} {ms:List (List Nat)} {ys:List (Bool×List Rc)} {ks:List Nat},sb S.lk γ l us->S.lk.Dk ms l=some (ys,ks) ->
  ∃ g,keys g=ks/\∀ G,(∀ p∈g,lk G p.1=some p.2)->(∀ r∈OR ms l,r∉keys G)->qM X e0 γ0 (keys G) (mD G γ.O) w ms ys us ks
 | [],us,ms,ys,ks,hl,h=>by cases hl; cases h; exact ⟨[],rfl,fun G _ _=> .nil⟩
 | (b,x)::l,us,ms,ys,ks,hl,h=>by
  cases hl with
  | cons hx hl =>
   obtain ⟨u,hu,hb1,YE⟩:=hx
   simp only [Lk.Dk] at h
   cases h1:S.lk.uD (nJ ms) x with
   | none=>simp [h1] at h
   | some p =>
    obtain ⟨y,k⟩:=p
    cases h2:S.lk.Dk (tl ms) l with
    | none=>simp [h1,h2] at h
    | some q =>
     obtain ⟨yl,kl⟩:=q
     simp only [h1,h2,zA,zG] at h
     obtain ⟨rfl,rfl⟩:=h
     obtain ⟨g1,Hz,i1⟩:=wQ hI hu h1
     obtain ⟨g,hg,ih⟩:=Gp hI hl h2
     refine ⟨g1++g,by rw [bA,Hz,hg],fun G hG hs=> .cons (i1 G (fun p hp=>hG p (List.mem_append_left _ hp)) fun r hr=>hs r ?_) hb1 YE (ih G (fun p hp=>hG p (List.mem_append_right _ hp)) fun r hr=>hs r ?_)⟩
     ·simp only [OR,zH]; exact .inl hr
     ·simp only [OR,zH]; exact .inr hr
theorem RO (hI:Inv X e0 γ0 w0 S γ a w) {v:AV} {u:Value} {rl:List (List Nat)} {rc:RC} {ks:List Nat} (hv:bk S.lk γ v u) (h:S.lk.Lu rl v=some (rc,ks)) :
  ∃ g,keys g=ks/\∀ G,(∀ p∈g,lk G p.1=some p.2)->(∀ r∈S.lk.We rl v,r∉keys G)->vH X e0 γ0 (keys G) (mD G γ.O) w rl rc u ks:=by
 cases v with
 | c x =>
  have one:bq S.lk γ x u->(match S.lk.uy (hd (nJ rl)) x with | some (y,a)=>some (RC.c y,a) | none=>none)=some (rc,ks)->S.lk.We rl (.c x)=Cp (nJ rl) [x] ->
    ∃ g,keys g=ks/\∀ G,(∀ p∈g,lk G p.1=some p.2)->(∀ r∈S.lk.We rl (.c x),r∉keys G)->vH X e0 γ0 (keys G) (mD G γ.O) w rl rc u ks:=by
   intro hx h FB
   cases h1:S.lk.uy (hd (nJ rl)) x with
   | none=>rw [h1] at h; cases h
   | some p =>
    obtain ⟨y,k⟩:=p
    rw [h1] at h; cases h
    refine ⟨Wa ks (hd (nJ rl)),AP _ _,fun G hG hs=>JI hI hx h1 (Ee hG) fun hm r hr=>hs r ?_⟩
    rw [FB]
    simp only [Cp,hm,zH]; exact .inl hr
  cases x with
  | un=>cases h
  | pv k c =>
   simp only [Lk.Lu] at h
   revert h; split
   ·rename_i cs h1 h2 h3
    intro h
    have h1:=zQ h1
    have h2:=aG h2
    subst h2
    obtain ⟨_,hu⟩:=hv
    obtain ⟨b1,cur,e,b2,b3⟩:=hI.rel.vs k cs h3
    cases h4:S.lk.uD (nJ rl) cs with
    | none=>rw [h4] at h; cases h
    | some p =>
     obtain ⟨y,k'⟩:=p
     rw [h4] at h; cases h
     obtain ⟨g,hg,i1⟩:=wQ hI b3 h4
     refine ⟨g,hg,fun G hG hs=>⟨k,γ.vb k,cur,e,h1,hu,?_,b2,i1 G hG fun r hr=>hs r ?_⟩⟩
     ·simp only [mD,b1]; rfl
     ·simp only [Lk.We,h3]; exact hr
   ·intro h; cases h
  | b x=>exact one (bk.to hv (by simp)) h rfl
  | i k n=>exact one (bk.to hv (by simp)) h rfl
  | s x=>exact one (bk.to hv (by simp)) h rfl
  | nl τ=>exact one (bk.to hv (by simp)) h rfl
  | sw r=>exact one (bk.to hv (by simp)) h rfl
  | sl r o n=>exact one (bk.to hv (by simp)) h rfl
  | nw r e c=>exact one (bk.to hv (by simp)) h rfl
  | ns r e c o n=>exact one (bk.to hv (by simp)) h rfl
  | pe r e c=>exact one (bk.to hv (by simp)) h rfl
  | pn r e c o n=>exact one (bk.to hv (by simp)) h rfl
  | fn f caps=>exact one (bk.to hv (by simp)) h rfl
 | a l =>
  obtain ⟨us,hu,hl⟩:=hv
  simp only [Lk.Lu] at h
  cases h4:S.lk.uD (nJ rl) l with
  | none=>rw [h4] at h; cases h
  | some p =>
   obtain ⟨y,k'⟩:=p
   rw [h4] at h; cases h
   obtain ⟨g,hg,i1⟩:=wQ hI hl h4
   exact ⟨g,hg,fun G hG hs=>⟨us,hu,i1 G hG fun r hr=>hs r hr⟩⟩
 | t l =>
  obtain ⟨us,hu,hl⟩:=hv
  cases l with
  | nil =>
   cases hl; cases h
   exact ⟨[],rfl,fun G hG hs=>⟨rfl,hu⟩⟩
  | cons p l =>
   simp only [Lk.Lu] at h
   cases h4:S.lk.Dk rl (p::l) with
   | none=>rw [h4] at h; cases h
   | some q =>
    obtain ⟨y,k'⟩:=q
    rw [h4] at h; cases h
    obtain ⟨g,hg,i1⟩:=Gp hI hl h4
    exact ⟨g,hg,fun G hG hs=>⟨us,hu,i1 G hG fun r hr=>hs r hr⟩⟩
 | g p q v=>cases h
theorem Ki (hI:Inv X e0 γ0 w0 S γ a w) {k:Nat}:∀ {l:List Cv} {us:List Value} {ms:List Nat} {j:Nat} {ys:List Ct} {ks:List Nat},ca S.lk γ l us->S.lk.Mx k j ms l=some (ys,ks) ->
  ∃ g,keys g=ks/\∀ G,(∀ p∈g,lk G p.1=some p.2)->pH X γ0 (mD G γ.O) w (300000+k*64+j) ms ys us ks
 | [],us,ms,j,ys,ks,hl,h=>by cases hl; cases h; exact ⟨[],rfl,fun G _=> .nil⟩
 | x::l,us,ms,j,ys,ks,hl,h=>by
  cases hl with
  | cons hx hl =>
   rename_i v us
   simp only [Lk.Mx] at h
   cases h2:S.lk.Mx k (j+1) (tl ms) l with
   | none=>rw [h2] at h; cases h
   | some q =>
    obtain ⟨yl,kl⟩:=q
    rw [h2] at h; simp only at h
    obtain ⟨g,hg,ih⟩:=Ki hI hl h2
    have fin:∀ {y:Ct} {k1:List Nat} {ys:List Ct} {ks:List Nat},(∀ G,(∀ r∈k1,lk G r=some (hd ms))->te X γ0 (mD G γ.O) w (300000+k*64+j) (hd ms) y v k1)->some (y::yl,k1++kl)=some (ys,ks) ->
      ∃ g,keys g=ks/\∀ G,(∀ p∈g,lk G p.1=some p.2)->pH X γ0 (mD G γ.O) w (300000+k*64+j) ms ys (v::us) ks:=by
     intro y k1 ys ks hr h
     cases h
     exact ⟨Wa k1 (hd ms)++g,by rw [bA,AP,hg],fun G hG=> .cons (hr G (Ee fun p hp=>hG p (List.mem_append_left _ hp))) (ih G fun p hp=>hG p (List.mem_append_right _ hp))⟩
    revert h; split
    ·rename_i hm
     split
     ·intro h; exact fin (k1:=[]) (fun G _=>by rw [hm]; exact ⟨rfl,hx,trivial⟩) h
     ·intro h; exact fin (k1:=[]) (fun G _=>by rw [hm]; exact ⟨rfl,hx,trivial⟩) h
     ·intro h; exact fin (k1:=[]) (fun G _=>by rw [hm]; exact ⟨rfl,hx,trivial⟩) h
     ·intro h; cases h
    ·rename_i hm
     split
     ·rename_i r
      split
      ·rename_i y h1 h3
       intro h
       simp only [zB] at h1
       have Fl:=aG h1.1
       have hr4:=zQ h1.2.1
       obtain ⟨row,hr,ho⟩:=AB h1.2.2
       obtain ⟨_,hv⟩:=hx
       obtain ⟨_,i2,_⟩:=hI.i3 r row (by omega) (by omega) hr ho
       refine fin (k1:=[]) (fun G _=> ?_) h
       rw [hm]; exact ⟨rfl,by rw [hv,i2,Fl]⟩
      ·intro h; cases h
     ·intro h; cases h
    ·rename_i hm0 hm1
     have big:∀ {τ:Ty} {xs:List (El τ)} {k1:List Nat} (G:List (Nat×Nat)),rT (hd ms)=true->LY X (mD G γ.O) w (hd ms) τ xs v k1->te X γ0 (mD G γ.O) w (300000+k*64+j) (hd ms) (.l τ xs) v k1:=by
      intro τ xs k1 G h1 h2
      simp only [te]
      revert h1 h2
      generalize hd ms=md at hm0 hm1
      intro h1 h2
      rcases lY h1 with rfl | rfl | rfl<;>exact ⟨h1,h2⟩
     split
     ·rename_i τ
      cases Ca:rT (hd ms) with
      | false=>intro h; cases h
      | true=>intro h; exact fin (k1:=[]) (fun G _=>big G Ca (.inl ⟨rfl,hx,rfl⟩)) h
     ·rename_i r
      obtain ⟨⟨row,hr⟩,hv⟩:=hx
      rw [hr]; simp only
      cases Ca:rT (hd ms) with
      | false=>intro h; cases h
      | true =>
       cases hle:nF (hd ms) row.ow with
       | false=>intro h; cases h
       | true =>
        intro h
        refine fin (k1:=[r]) (fun G hG=>big G Ca (.inr ⟨r,γ.cv r,rfl,?_⟩)) h
        rw [hv]
        exact tG hI.rel hr (hG r (by simp)) hle
     ·intro h; cases h
theorem He (hI:Inv X e0 γ0 w0 S γ a w):∀ {ms:List (List Nat)} {k:Nat} {vo:List (List Ct)} {ks:List Nat},k+ms.length<=1000->S.lk.CX k ms=some (vo,ks) ->
  ∃ g,keys g=ks/\∀ G,(∀ p∈g,lk G p.1=some p.2)->wy X γ0 (mD G γ.O) w k ms vo ks
 | [],k,vo,ks,hk,h=>by cases h; exact ⟨[],rfl,fun G _=> .nil⟩
 | wd::ms,k,vo,ks,hk,h=>by
  simp only [zR] at hk
  simp only [Lk.CX] at h
  cases h1:S.lk.v k with
  | none=>simp [h1] at h
  | some cs =>
   cases h2:S.lk.CX (k+1) ms with
   | none=>simp [h1,h2] at h
   | some q =>
    obtain ⟨yl,kl⟩:=q
    simp only [h1,h2] at h
    cases h3:S.lk.Mx k 0 wd cs with
    | none=>rw [h3] at h; cases h
    | some p =>
     obtain ⟨y,k1⟩:=p
     rw [h3] at h; cases h
     obtain ⟨b1,cur,e,b2,b3⟩:=hI.rel.vs k cs h1
     obtain ⟨g1,Hz,i1⟩:=Ki hI b3 h3
     obtain ⟨g,hg,ih⟩:=He hI (by omega) h2
     have FC:=hI.i2 k (by omega)
     refine ⟨g1++g,by rw [bA,Hz,hg],fun G hG=> .cons (cur:=cur) (e:=e) ?_ ?_ (i1 G fun p hp=>hG p (List.mem_append_left _ hp)) (ih G fun p hp=>hG p (List.mem_append_right _ hp))⟩
     ·simp only [mD]; rw [← FC,b1]; rfl
     ·rw [← FC]; exact b2
theorem Bl (hI:Inv X e0 γ0 w0 S γ a w):∀ {cf:List AC} {p:Nat} {ys:List Ct} {ks:List Nat},S.lk.yN p cf=some (ys,ks) ->
  ∃ g,keys g=ks/\∀ G,(∀ p∈g,lk G p.1=some p.2)->rM X γ0 (mD G γ.O) w p cf ys ks
 | [],p,ys,ks,h=>by cases h; exact ⟨[],rfl,fun G _=> .nil⟩
 | x::l,p,ys,ks,h=>by
  have skip:(∀ τ xs,x≠ .io τ xs)->S.lk.yN (p+1) l=some (ys,ks)->∃ g,keys g=ks/\∀ G,(∀ p∈g,lk G p.1=some p.2)->rM X γ0 (mD G γ.O) w p (x::l) ys ks:=by
   intro hx h
   obtain ⟨g,hg,ih⟩:=Bl hI h
   exact ⟨g,hg,fun G hG=> .skip hx (ih G hG)⟩
  cases x with
  | io τ xs =>
   simp only [Lk.yN] at h
   cases h1:S.lk.r (200000+p*64) with
   | none=>simp [h1] at h
   | some row =>
    cases h2:S.lk.yN (p+1) l with
    | none=>simp [h1,h2] at h
    | some q =>
     obtain ⟨yl,kl⟩:=q
     simp only [h1,h2] at h
     revert h; split
     ·rename_i h3 h4
      intro h; cases h
      simp only [zB] at h3
      have ho:=aG h3.1
      have hp:=zQ h3.2
      have hτ:=AZ h4
      obtain ⟨σ,zs,ow⟩:=row
      simp only at ho hτ; subst ho; subst hτ
      obtain ⟨g,hg,ih⟩:=Bl hI h2
      refine ⟨(200000+p*64,5)::g,by simp [keys,hg],fun G hG=> .io (cs:=γ.cv (200000+p*64)) ?_ (ih G fun q hq=>hG q (zJ _ hq))⟩
      have:=tG hI.rel (G:=G) h1 (d:=5) (hG (200000+p*64,5) zO) rfl
      rw [hI.i4 _ (by omega) (by omega)] at this
      exact this
     ·intro h; cases h
  | c y=>exact skip (by simp) h
  | a ys=>exact skip (by simp) h
  | p k=>exact skip (by simp) h
  | f g ks=>exact skip (by simp) h
  | al k c=>exact skip (by simp) h
theorem UT (hI:Inv X e0 γ0 w0 S γ a w) {g:ub} {cf:List AC} {cH:List (List Ct)} {f:Func} {cr:CR} {u:Value} (he0:e0=(entry g cf cH).lk) {v:AV} (hv:bk S.lk γ v u)
  (bS:Jj X S f.results.toList=some v) (h:S.out X g cf f=some cr):Fh X g cf cH γ0 w0 cr u w:=by
 simp only [St.out,bS] at h
 cases h1:S.lk.Lu g.rl v with
 | none=>simp [h1] at h
 | some p1 =>
  obtain ⟨rc,ka⟩:=p1
  cases h2:S.lk.CX 0 g.vl with
  | none=>simp [h1,h2] at h
  | some p2 =>
   obtain ⟨vo,kb⟩:=p2
   cases h3:S.lk.yN 0 cf with
   | none=>simp [h1,h2,h3] at h
   | some p3 =>
    obtain ⟨io,kc⟩:=p3
    simp only [h1,h2,h3] at h
    cases hc:fv (ka++(kb++kc))&&(jx (S.lk.We g.rl v) (ka++(kb++kc))&&Nat.ble g.vl.length 1000) with
    | false=>rw [hc] at h; cases h
    | true =>
     rw [hc] at h; cases h
     simp only [zB] at hc
     have HC:=gE.1 hc.1
     have FB:=eI.1 hc.2.1
     have MU:=zQ hc.2.2
     obtain ⟨g1,k1,i1⟩:=RO hI hv h1
     obtain ⟨g2,k2,i2⟩:=He hI (k:=0) (by omega) h2
     obtain ⟨g3,k3,i3⟩:=Bl hI h3
     have hk:keys (g1++(g2++g3))=ka++(kb++kc):=by simp only [bA,k1,k2,k3]
     have hG:∀ p∈g1++(g2++g3),lk (g1++(g2++g3)) p.1=some p.2:=fun p hp=>fZ (by rw [hk]; exact HC) hp
     refine ⟨mD (g1++(g2++g3)) γ.O,ka,kb,kc,⟨hI.fr.os,hI.fr.tape,hI.fr.output,hI.fr.size,fun b hb ho=> ?_,fun b hb=> ?_⟩,HC,?_,?_,?_⟩
     ·obtain ⟨b1,b2⟩:=hI.fr.oR b hb ho
      refine ⟨?_,b2⟩
      simp only [mD]
      rw [b1]
      rcases ho with ho | ho | ho<;>rw [ho]<;>rfl
     ·simp only [mD]; rw [hI.fr.top b hb]; rfl
     ·rw [← hk,← he0]
      exact i1 _ (fun p hp=>hG p (List.mem_append_left _ hp)) fun r hr=>by rw [hk]; exact FB r hr
     ·exact i2 _ fun p hp=>hG p (List.mem_append_right _ (List.mem_append_left _ hp))
     ·exact i3 _ fun p hp=>hG p (List.mem_append_right _ (List.mem_append_right _ hp))
end
end Go.Soft
namespace Go.Soft
open Go
variable {X X':Ctx} {m M:Lk} {γ γ':Gh} {w w':World} {ρ:Operand->Value} {S T:St} {δ δ':Dl}
section
theorem Sl.cx (oV:X'.id=X.id) {O:OM} {c:Ep} {τ:Ty} {v:Value} {n:Nat} {cs:List Value} (h:Sl X O w c τ v n cs):Sl X' O w c τ v n cs:=by
 cases c with
 | own t=>exact ⟨by rw [oV]; exact h.1,h.2⟩
 | _=>exact h
theorem cP.cx (oV:X'.id=X.id) {O:OM} {k:Nat} {row:Row} {v:Value} {cs:List Value} (h:cP X O w k row v cs):cP X' O w k row v cs:=by
 refine ⟨h.top.cx oV,fun e c ct he hc=> ?_⟩
 obtain ⟨u,hu,hr⟩:=h.rG e c ct he hc
 refine ⟨u,hu,?_⟩
 cases ct with
 | u=>exact hr
 | l τ ys=>exact ⟨hr.1,hr.2.cx oV⟩
 | _=>exact hr
theorem Rel.cx (oV:X'.id=X.id) (h:Rel X m γ w):Rel X' m γ w:=⟨h.vs,fun k row hk=>(h.rs k row hk).cx oV⟩
theorem S2.cx (oV:X'.id=X.id) {g:ub} {cf:List AC} {cH:List (List Ct)} {args:List Value} (h:S2 X g cf cH γ w args):S2 X' g cf cH γ w args:=⟨h.rel.cx oV,h.top,h.args⟩
theorem LY.cx (oV:X'.id=X.id) {O:OM} {md:Nat} {τ:Ty} {xs:List (El τ)} {v:Value} {ks:List Nat} (h:LY X O w md τ xs v ks):LY X' O w md τ xs v ks:=by
 rcases h with h | ⟨key,cs,h1,h2⟩
 ·exact .inl h
 ·exact .inr ⟨key,cs,h1,h2.cx oV⟩
variable {e0:Lk} {γ0:Gh} {K:List Nat} {O:OM}
theorem rJ.cx (oV:X'.id=X.id) {md:Nat} {y:Rc} {v:Value} {ks:List Nat} (h:rJ X e0 γ0 K O w md y v ks):rJ X' e0 γ0 K O w md y v ks:=by
 cases y with
 | c ct =>
  cases ct with
  | l τ xs=>exact ⟨h.1,h.2.cx oV⟩
  | _=>exact h
 | _=>exact h
theorem m6.cx (oV:X'.id=X.id) {ms:List Nat} {y:List Rc} {v:List Value} {ks:List Nat} (h:m6 X e0 γ0 K O w ms y v ks):m6 X' e0 γ0 K O w ms y v ks:=by
 induction h with
 | nil=>exact .nil
 | cons h1 _ ih=>exact .cons (h1.cx oV) ih
theorem qM.cx (oV:X'.id=X.id) {ms:List (List Nat)} {y:List (Bool×List Rc)} {v:List Value} {ks:List Nat} (h:qM X e0 γ0 K O w ms y v ks):qM X' e0 γ0 K O w ms y v ks:=by
 induction h with
 | nil=>exact .nil
 | cons h1 h2 h3 _ ih=>exact .cons (h1.cx oV) h2 h3 ih
theorem vH.cx (oV:X'.id=X.id) {rl:List (List Nat)} {y:RC} {v:Value} {ks:List Nat} (h:vH X e0 γ0 K O w rl y v ks):vH X' e0 γ0 K O w rl y v ks:=by
 cases y with
 | u=>exact h
 | c x=>exact rJ.cx oV h
 | a l=>obtain ⟨us,h1,h2⟩:=h; exact ⟨us,h1,h2.cx oV⟩
 | t l=>obtain ⟨us,h1,h2⟩:=h; exact ⟨us,h1,h2.cx oV⟩
 | np l=>obtain ⟨cv,g,cur,e,h1,h2,h3,h4,h5⟩:=h; exact ⟨cv,g,cur,e,h1,h2,h3,h4,h5.cx oV⟩
theorem te.cx (oV:X'.id=X.id) {key md:Nat} {y:Ct} {v:Value} {ks:List Nat} (h:te X γ0 O w key md y v ks):te X' γ0 O w key md y v ks:=by
 revert h
 simp only [te]
 split
 ·exact id
 ·exact id
 ·split
  ·exact fun h=>⟨h.1,h.2.cx oV⟩
  ·exact id
theorem pH.cx (oV:X'.id=X.id) {k:Nat} {ms:List Nat} {y:List Ct} {v:List Value} {ks:List Nat} (h:pH X γ0 O w k ms y v ks):pH X' γ0 O w k ms y v ks:=by
 induction h with
 | nil=>exact .nil
 | cons h1 _ ih=>exact .cons (h1.cx oV) ih
theorem wy.cx (oV:X'.id=X.id) {k:Nat} {ms:List (List Nat)} {y:List (List Ct)} {ks:List Nat} (h:wy X γ0 O w k ms y ks):wy X' γ0 O w k ms y ks:=by
 induction h with
 | nil=>exact .nil
 | cons h1 h2 h3 _ ih=>exact .cons h1 h2 (h3.cx oV) ih
theorem rM.cx (oV:X'.id=X.id) {p:Nat} {cf:List AC} {y:List Ct} {ks:List Nat} (h:rM X γ0 O w p cf y ks):rM X' γ0 O w p cf y ks:=by
 induction h with
 | nil=>exact .nil
 | io h1 _ ih=>exact .io (h1.cx oV) ih
 | skip h1 _ ih=>exact .skip h1 ih
theorem Fh.cx (oV:X'.id=X.id) {g:ub} {cf:List AC} {cH:List (List Ct)} {cr:CR} {v:Value} (h:Fh X g cf cH γ0 w cr v w'):Fh X' g cf cH γ0 w cr v w':=by
 obtain ⟨O,ka,kb,kc,h1,h2,h3,h4,h5⟩:=h
 exact ⟨O,ka,kb,kc,h1,h2,h3.cx oV,h4.cx oV,h5.cx oV⟩
end
theorem AL.at {R:Type} {g:ub} {f:FuncId} {F:zc R} (h:AL X g f F) (fn:Func):AL (X.at fn) g f F :=
 ⟨h.FA,fun cf cH cr hF γ w args hp=>(h.ok cf cH cr hF γ w args (S2.cx (X:=X.at fn) (X':=X) rfl hp)).mono fun e w' ⟨v,h1,h2⟩=>⟨v,h1,Fh.cx (X:=X) (X':=X.at fn) rfl h2⟩⟩
theorem sM.at {R:Type} {E:Env R} (h:sM X E) (fn:Func):sM (X.at fn) E:=⟨fun f g hg=>⟨(h.fn f g hg).1.at fn,(h.fn f g hg).2⟩,h.FA⟩
theorem iy.at (h:iy X) (fn:Func):iy (X.at fn):=⟨h.ty,h.id,h.byte,h.eqs,h.mixed⟩
def BJ (tmps:Array Value):ResultVar->Sem Value
 | .tmp t=>pure (tmps.getD t undef)
 | .cell a t=>do loadVar t (← asAddr (tmps.getD a undef))
theorem GQ {a:Act} (hR:Rel X S.lk γ w) (hT:EC X S γ a) {r:ResultVar} {v:AV} (h:Aj X S r=some v):∃ u,(BJ a.tmps r).run X.P w= .ok u w/\bk S.lk γ v u:=by
 cases r with
 | tmp t=>cases h; exact ⟨_,rfl,EW hT t⟩
 | cell t T =>
  simp only [Aj] at h
  have hg:=EW hT t
  revert h; split
  ·rename_i c hc
   rw [hc] at hg
   cases hf:S.lk.from c with
   | none=>intro h; cases h
   | some cs =>
    simp only
    cases hb:Nat.ble (fS X.P T) cs.length&&CH X.P T with
    | false=>intro h; cases h
    | true =>
     intro h; cases h
     simp only [zB] at hb
     have cR:c≠ .un:=fun e=>by subst e; cases hf
     have oT:=bk.to hg cR
     obtain ⟨g,o,us,hp,_,_⟩:=KE (Le.refl _) hR oT hf
     obtain ⟨u,hu,QN⟩:=Km (Le.refl _) hR oT hf hb.1 hb.2
     refine ⟨u,?_,QN⟩
     rw [hp] at hu
     simp only [BJ,hp,asAddr]
     simpa [Instr.loadAt,Instr.sureAddr] using hu
  ·intro h; cases h
theorem F6 {a:Act} (hR:Rel X S.lk γ w) (hT:EC X S γ a):∀ {l:List ResultVar} {v:List (Bool×List Cv)},tj X S l=some v->∃ us,(l.mapM (BJ a.tmps)).run X.P w= .ok us w/\sb S.lk γ v us/\us.length=l.length
 | [],v,h=>by cases h; exact ⟨[],by simp,.nil,rfl⟩
 | r::l,v,h=>by
  simp only [tj] at h
  cases h1:Aj X S r with
  | none=>simp [h1] at h
  | some x =>
   cases h2:tj X S l with
   | none=>rw [h1,h2] at h; revert h; split<;>simp_all
   | some y =>
    obtain ⟨u,hu,QN⟩:=GQ hR hT h1
    obtain ⟨us,SQ,MV,hl⟩:=F6 hR hT h2
    refine ⟨u::us,?_,?_,by simp [hl]⟩
    ·simp only [List.mapM_cons,Sem.run_bind,hu,Result.andThen_ok,SQ,Sem.run_pure]
    ·rw [h1,h2] at h
     cases x with
     | c z =>
      by_cases hz:z= .un
      ·subst hz; simp at h
      ·have Zk:v=(false,[z])::y:=by cases z<;>first | exact absurd rfl hz | (simp only [zA] at h; exact h.symm)
       subst Zk
       exact .cons ⟨[u],.cons (bk.to QN hz) .nil,fun h=>(by cases h),fun _=>rfl⟩ MV
     | a z =>
      simp only [zA] at h
      subst h
      obtain ⟨us',h3,h4⟩:=QN
      exact .cons ⟨us',h4,fun _=>h3,fun h=>(by cases h)⟩ MV
     | t z=>simp at h
     | g p q z=>simp at h
theorem Ri {a:Act} (hR:Rel X S.lk γ w) (hT:EC X S γ a) {fn:Func} {v:AV} (h:Jj X S fn.results.toList=some v):∃ u,(results fn a.tmps).run X.P w= .ok u w/\bk S.lk γ v u:=by
 have bS:∀ us,(fn.results.toList.mapM (BJ a.tmps)).run X.P w= .ok us w->(results fn a.tmps).run X.P w= .ok (if h:us.toArray.size=1 then us.toArray[0] else .tuple us.toArray) w:=by
  intro us SQ
  have e:results fn a.tmps=(do
    let vs←fn.results.mapM (BJ a.tmps)
    pure (if h:vs.size=1 then vs[0] else .tuple vs)):=by
   simp only [results]
   congr 1
  rw [e,Array.mapM_eq_mapM_toList]
  simp only [Sem.run_bind,map_eq_pure_bind,bind_assoc,pure_bind,SQ,Result.andThen_ok,Sem.run_pure]
 revert h bS
 generalize fn.results.toList=l
 intro h bS
 have many:tj X S l=some (match v with | .t m=>m | _=>[])->(∃ m,v= .t m)->l.length≠1->∃ u,(results fn a.tmps).run X.P w= .ok u w/\bk S.lk γ v u:=by
  intro h1 hv hl
  obtain ⟨m,rfl⟩:=hv
  obtain ⟨us,SQ,MV,hlen⟩:=F6 hR hT h1
  refine ⟨_,bS us SQ,?_⟩
  rw [dif_neg (by simp; omega)]
  exact ⟨us,rfl,MV⟩
 have step:(match tj X S l with | some m=>some (AV.t m) | none=>none)=some v->l.length≠1->∃ u,(results fn a.tmps).run X.P w= .ok u w/\bk S.lk γ v u:=by
  intro h1 hl
  cases h2:tj X S l with
  | none=>rw [h2] at h1; cases h1
  | some m=>rw [h2] at h1; cases h1; exact many h2 ⟨m,rfl⟩ hl
 match l,h,bS,step with
 | [r],h,bS,_ =>
  obtain ⟨u,hu,QN⟩:=GQ hR hT h
  exact ⟨u,by simpa using bS [u] (by simp [hu]),QN⟩
 | [],h,_,step=>exact step h (by simp)
 | _::_::_,h,_,step=>exact step h (by simp)
theorem EE:∀ (l:List AV) (n t:Nat),lk (H6 n l) t=if n<=t then l[t-n]? else none
 | [],n,t=>by simp [H6,lk]
 | v::l,n,t=>by
  simp only [H6,lk,EE l (n+1) t]
  cases h:Nat.beq n t with
  | true=>have:=aG h; subst this; simp
  | false =>
   have cR:n≠t:=fun e=>by subst e; rw [Nat.beq_refl] at h; cases h
   by_cases h1:n+1<=t
   ·rw [if_pos h1,if_pos (by omega),show t-n=(t-(n+1))+1 by omega]; simp
   ·rw [if_neg h1,if_neg (by omega)]
theorem On {g:ub} {cf:List AC} {cH:List (List Ct)}:pA (entry g cf cH):=by
 intro t p q v h
 have h:lk (H6 0 (rX g.am 0 cf).1) t=some (.g p q v):=h
 rw [EE,if_pos (Nat.zero_le _),xc] at h
 cases hx:cf[t-0]? with
 | none=>rw [hx] at h; cases h
 | some x=>rw [hx] at h; cases x<;>simp [Dv] at h
variable {R:Type} {E:Env R}
theorem WS (r0:R) (hX:iy X) (hE:sM X E) {L:Live} {g:ub} {f:FuncId} {fn:Func} {body:Code} {lps:Nat->Loop R} {F:zc R}
  (hf:X.P.funcs[f]? =some fn) (hb:fn.body=some body) (hl:GH (X.at fn) E L body lps)
  (hF:∀ cf cH,F cf cH=(fun _=>none)\/∃ n,F cf cH=Dj X E L (lps n) g fn cf cH):AL X g f F:=by
 have hXf:=hX.at fn
 have Zr:=hE.at fn
 have euni:∀ n c s,gx (fun k:Ex×St->Option R=>exec (X.at fn) E L (lps n) c s fun e s=>k (e,s)):=fun n c s=>jh Zr.FA (fun c i l=>wW Zr.FA hl n c i l) c s
 let G:List AC->(CR->Option R)->Ex×St->Option R:=fun cf k x=>match x.1 with
  | .exit _=>none
  | _=>match x.2.out (X.at fn) g cf fn with | some r=>k r | none=>none
 have ng:∀ n cf cH k,Dj X E L (lps n) g fn cf cH k=exec (X.at fn) E L (lps n) body (entry g cf cH) fun e s=>(match e with
   | .exit _=>none
   | _=>match s.out X g cf fn with | some r=>k r | none=>none):=by
  intro n cf cH k; simp only [Dj,hb]; rfl
 have vK:∀ (s:St) (cf:List AC),s.out (X.at fn) g cf fn=s.out X g cf fn:=fun s cf=>by
  have h1:∀ r,Aj (X.at fn) s r=Aj X s r:=fun r=>by cases r<;>rfl
  have h2:∀ l,tj (X.at fn) s l=tj X s l:=by
   intro l
   induction l with
   | nil=>rfl
   | cons r l ih=>simp only [tj,h1,ih]
  have h3:∀ l,Jj (X.at fn) s l=Jj X s l:=by
   intro l
   simp only [Jj,h1,h2]
  simp only [St.out,h3]
 have TF:∀ n cf cH k,Dj X E L (lps n) g fn cf cH k=(fun k:Ex×St->Option R=>exec (X.at fn) E L (lps n) body (entry g cf cH) fun e s=>k (e,s)) (G cf k):=by
  intro n cf cH k
  rw [ng]
  show exec (X.at fn) E L (lps n) body (entry g cf cH) _=exec (X.at fn) E L (lps n) body (entry g cf cH) _
  congr 1
  funext e s
  show _=(match e with
   | .exit _=>none
   | _=>match s.out (X.at fn) g cf fn with | some r=>k r | none=>none)
  rw [vK]
 have hGu:∀ cf x,gx (fun k=>G cf k x):=by
  intro cf x
  obtain ⟨e,s⟩:=x
  have:gx (fun k:CR->Option R=>match s.out (X.at fn) g cf fn with | some r=>k r | none=>none):=by
   cases s.out (X.at fn) g cf fn with
   | none=>exact gx.none
   | some r=>exact gx.one r
  cases e with
  | exit i=>exact gx.none
  | normal=>exact this
  | ret=>exact this
 refine ⟨fun cf cH=> ?_,fun cf cH cr hK γ w args hp=> ?_⟩
 ·rcases hF cf cH with h | ⟨n,h⟩
  ·rw [h]; exact gx.none
  ·rw [h]
   have:=(euni n body (entry g cf cH)).bind (F:=fun x k=>G cf k x) (hGu cf)
   obtain ⟨o,ho⟩:=this
   exact ⟨o,fun k=>by rw [TF]; exact ho k⟩
 ·rcases hF cf cH with h | ⟨n,h⟩
  ·rw [h] at hK; exact (bM r0 hK).elim
  ·rw [h] at hK
   obtain ⟨oc,ry⟩:=euni n body (entry g cf cH)
   have QL:∀ k,oc.bind (G cf k)=k cr:=fun k=>by
    rw [← hK k,TF]; exact (ry (G cf k)).symm
   cases oc with
   | none=>exact (bM r0 QL).elim
   | some x =>
    obtain ⟨e,s⟩:=x
    have cR:(e= .normal\/e= .ret)/\s.out (X.at fn) g cf fn=some cr:=by
     have X3:(∀ k:CR->Option R,(match s.out (X.at fn) g cf fn with | some r=>k r | none=>none)=k cr)->s.out (X.at fn) g cf fn=some cr:=by
      intro h
      cases ho:s.out (X.at fn) g cf fn with
      | none=>rw [ho] at h; exact (bM r0 h).elim
      | some r=>rw [ho] at h; rw [iU r0 h]
     cases e with
     | exit i=>exact (bM r0 QL).elim
     | normal=>exact ⟨.inl rfl,X3 QL⟩
     | ret=>exact ⟨.inr rfl,X3 QL⟩
    obtain ⟨he,ho⟩:=cR
    have Y9:=S2.cx (X:=X) (X':=X.at fn) rfl hp
    refine calls_of_wp hf hb ?_
    have Px:=lH.get Y9.args
    have hI:Inv (X.at fn) (entry g cf cH).lk γ w (entry g cf cH) γ { tmps:=args.toArray++Array.replicate (fn.ntmps-args.toArray.size) undef,defers:=[] } w:=by
     refine ⟨Y9.rel,Y9.top,⟨?_,fun t av ht=> ?_⟩,rfl,⟨rfl,rfl,rfl,Nat.le_refl _,fun _ _ _=>⟨rfl,rfl⟩,Y9.top⟩,fun k row _ _ h _=>⟨h,rfl,rfl⟩,fun _ _ _=>rfl,fun _ _=>rfl⟩
     ·show fn.ntmps<=_
      simp; omega
     ·have ht:lk (H6 0 (rX g.am 0 cf).1) t=some av:=ht
      rw [EE,if_pos (Nat.zero_le _)] at ht
      obtain ⟨u,hu,hr⟩:=Px.2 t av (by simpa using ht)
      have fM:t<args.length:=(zU.1 hu).1
      have:(args.toArray++Array.replicate (fn.ntmps-args.toArray.size) undef).getD t undef=u:=by
       rw [Array.getD_eq_getD_getElem?,Array.getElem?_append_left (by simpa using fM)]
       simp [hu]
      rw [this]; exact hr
    refine qC r0 hXf Zr hl (lpR r0 hXf Zr hl n) body (entry g cf cH) e s γ _ w _ (fun d hd=>BH hl.nd hd) On hI ry fun hg γ' a' w' KP=> ?_
    have xq:a'.defers=[]/\∃ v,(results fn a'.tmps).run X.P w'= .ok v w'/\∃ v',Ending.returned v= .returned v'/\Fh X g cf cH γ w cr v' w':=by
     refine ⟨KP.df,?_⟩
     cases hv:Jj (X.at fn) s fn.results.toList with
     | none=>simp [St.out,hv] at ho
     | some v =>
      obtain ⟨u,hu,QN⟩:=Ri KP.rel KP.tmp hv
      exact ⟨u,hu,u,rfl,Fh.cx (X:=X.at fn) (X':=X) rfl (UT KP rfl QN hv ho)⟩
    rcases he with rfl | rfl
    ·exact xq
    ·exact xq
end Go.Soft
namespace Go.Soft
open Go
inductive VT | b | i (k:IntKind) | s | l (τ:Ty) | n
def VT.T:VT->Type
 | .b=>Bool | .i _=>Int | .s=>ByteArray | .l τ=>List (El τ) | .n=>Nat
def HL:List VT->Type
 | []=>Unit
 | t::ts=>t.T×HL ts
def yR:(τ σ:Ty)->List (El σ)->Option (List (El τ))
 | .int,.int,x=>some x | .bool,.bool,x=>some x | .byte,.byte,x=>some x | .str,.str,x=>some x | .slot,.slot,x=>some x | .inode,.inode,x=>some x
 | .block,.block,x=>some x | .dep,.dep,x=>some x | .node,.node,x=>some x | .event,.event,x=>some x
 | _,_,_=>none
theorem AQ {τ σ:Ty} {x:List (El σ)} {y:List (El τ)} (h:yR τ σ x=some y):mX.l σ x=mX.l τ y/\Ct.l σ x=Ct.l τ y:=by
 cases τ<;>cases σ<;>simp only [yR,zA,reduceCtorEq] at h<;>subst h<;>exact ⟨rfl,rfl⟩
def mX.U4:mX->Option Bool | .b x=>some x | _=>none
def mX.U0 (k:IntKind):mX->Option Int | .i k' x=>(match Fy k k' with | true=>some x | false=>none) | _=>none
def mX.Ux:mX->Option ByteArray | .s x=>some x | _=>none
def mX.lB (τ:Ty):mX->Option (List (El τ)) | .l σ x=>yR τ σ x | _=>none
def mX.aaq:mX->Option Nat | .n x=>some x | _=>none
def VT.dec:(t:VT)->mX->Option t.T
 | .b,v=>v.U4
 | .i k,v=>v.U0 k
 | .s,v=>v.Ux
 | .l τ,v=>v.lB τ
 | .n,v=>v.aaq
def VT.enc:(t:VT)->t.T->mX
 | .b,x=> .b x | .i k,x=> .i k x | .s,x=> .s x | .l τ,x=> .l τ x | .n,x=> .n x
theorem VT.IN {t:VT} {v:mX} {x:t.T} (h:t.dec v=some x):v=t.enc x:=by
 cases t with
 | b =>
  cases v with
  | b y=>cases (h:some y=some x); rfl
  | _=>cases h
 | i k =>
  cases v with
  | i k' y =>
   have h:(match Fy k k' with | true=>some y | false=>none)=some x:=h
   cases hk:Fy k k' with
   | false=>rw [hk] at h; cases h
   | true=>rw [hk] at h; cases h; rw [qN hk]; rfl
  | _=>cases h
 | s =>
  cases v with
  | s y=>cases (h:some y=some x); rfl
  | _=>cases h
 | l τ =>
  cases v with
  | l σ y=>exact (AQ (h:yR τ σ y=some x)).1
  | _=>cases h
 | n =>
  cases v with
  | n y=>cases (h:some y=some x); rfl
  | _=>cases h
def Iu:(ts:List VT)->List mX->Option (HL ts)
 | [],[]=>some ()
 | t::ts,v::l=>match t.dec v with
  | some x=>match Iu ts l with | some y=>some (x,y) | none=>none
  | none=>none
 | _,_=>none
def Og:(ts:List VT)->HL ts->List mX
 | [],_=>[]
 | t::ts,(x,y)=>t.enc x::Og ts y
theorem JS:∀ {ts:List VT} {l:List mX} {h:HL ts},Iu ts l=some h->l=Og ts h
 | [],[],_,_=>rfl
 | [],_::_,_,h=>by cases h
 | _::_,[],_,h=>by cases h
 | t::ts,v::l,(x,y),h=>by
  simp only [Iu] at h
  cases hv:t.dec v with
  | none=>rw [hv] at h; cases h
  | some x' =>
   cases hl:Iu ts l with
   | none=>rw [hv,hl] at h; cases h
   | some y' =>
    rw [hv,hl] at h
    simp only [zA,zG] at h
    obtain ⟨rfl,rfl⟩:=h
    simp only [Og]
    rw [VT.IN hv,JS hl]
def Ct.U4:Ct->Option Bool | .b x=>some x | _=>none
def Ct.U0 (k:IntKind):Ct->Option Int | .i k' x=>(match Fy k k' with | true=>some x | false=>none) | _=>none
def Ct.Ux:Ct->Option ByteArray | .s x=>some x | _=>none
def Ct.lB (τ:Ty):Ct->Option (List (El τ)) | .l σ x=>yR τ σ x | _=>none
def VT.Sc:(t:VT)->Ct->Option t.T
 | .b,v=>v.U4
 | .i k,v=>v.U0 k
 | .s,v=>v.Ux
 | .l τ,v=>v.lB τ
 | .n,_=>none
def VT.UG:(t:VT)->t.T->Ct
 | .b,x=> .b x | .i k,x=> .i k x | .s,x=> .s x | .l τ,x=> .l τ x | .n,_=> .u
theorem VT.RV {t:VT} {v:Ct} {x:t.T} (h:t.Sc v=some x):v=t.UG x:=by
 cases t with
 | b =>
  cases v with
  | b y=>cases (h:some y=some x); rfl
  | _=>cases h
 | i k =>
  cases v with
  | i k' y =>
   have h:(match Fy k k' with | true=>some y | false=>none)=some x:=h
   cases hk:Fy k k' with
   | false=>rw [hk] at h; cases h
   | true=>rw [hk] at h; cases h; rw [qN hk]; rfl
  | _=>cases h
 | s =>
  cases v with
  | s y=>cases (h:some y=some x); rfl
  | _=>cases h
 | l τ =>
  cases v with
  | l σ y=>exact (AQ (h:yR τ σ y=some x)).2
  | _=>cases h
 | n=>cases h
def CT:List (Option VT)->Type
 | []=>Unit
 | some t::ts=>t.T×CT ts
 | none::ts=>CT ts
def Ct.isU:Ct->Bool | .u=>true | _=>false
def rF:(ts:List (Option VT))->List Ct->Option (CT ts)
 | [],l=>(match l with | []=>some () | _=>none)
 | some t::ts,l=>(match l with
  | []=>none
  | v::l=>match t.Sc v with
   | some x=>(match rF ts l with | some y=>some (x,y) | none=>none)
   | none=>none)
 | none::ts,l=>(match l with
  | []=>none
  | v::l=>match v.isU with
   | true=>rF ts l
   | false=>none)
def uV:(ts:List (Option VT))->CT ts->List Ct
 | [],_=>[]
 | some t::ts,(x,y)=>t.UG x::uV ts y
 | none::ts,y=> .u::uV ts y
theorem sD:∀ {ts:List (Option VT)} {l:List Ct} {h:CT ts},rF ts l=some h->l=uV ts h
 | [],l,h,e=>by
  cases l with
  | nil=>rfl
  | cons v l=>cases e
 | some t::ts,l,h,e=>by
  cases l with
  | nil=>cases e
  | cons v l =>
   have e:(match t.Sc v with
    | some x=>(match rF ts l with | some y=>some (x,y) | none=>none)
    | none=>none)=some h:=e
   cases hv:t.Sc v with
   | none=>rw [hv] at e; cases e
   | some x' =>
    cases hl:rF ts l with
    | none=>rw [hv,hl] at e; cases e
    | some y' =>
     rw [hv,hl] at e
     cases e
     show v::l=t.UG x'::uV ts y'
     rw [VT.RV hv,sD hl]
 | none::ts,l,h,e=>by
  cases l with
  | nil=>cases e
  | cons v l =>
   cases v with
   | u =>
    have e:rF ts l=some h:=e
    show Ct.u::l= .u::uV ts h
    rw [sD e]
   | _=>cases e
inductive xu | c (t:Option VT) | a (ts:List (Option VT)) | p (k:Nat) | f (g:Nat) (ks:List Nat) | al (k c:Nat) | io (τ:Ty)
def xu.T:xu->Type
 | .c t=>CT [t] | .a ts=>CT ts | .io τ=>List (El τ) | _=>Unit
def AC.aaJ:AC->List Ct | .c y=>[y] | _=>[]
def AC.ZY:AC->Option (List Ct) | .a y=>some y | _=>none
def AC.isP (k:Nat):AC->Bool | .p k'=>Nat.beq k k' | _=>false
def AC.isF (k:Nat) (ks:List Nat):AC->Bool | .f k' ks'=>Nat.beq k k'&&D5 ks ks' | _=>false
def AC.ZD (k j:Nat):AC->Bool | .al k' j'=>Nat.beq k k'&&Nat.beq j j' | _=>false
def AC.W6 (τ:Ty):AC->Option (List (El τ)) | .io σ xs=>yR τ σ xs | _=>none
def B3:Bool->Option Unit | true=>some () | false=>none
def xu.dec:(s:xu)->AC->Option s.T
 | .c t,v=>rF [t] v.aaJ
 | .a ts,v=>(match v.ZY with | some l=>rF ts l | none=>none)
 | .p k,v=>B3 (v.isP k)
 | .f g ks,v=>B3 (v.isF g ks)
 | .al k j,v=>B3 (v.ZD k j)
 | .io τ,v=>v.W6 τ
def hdC (l:List Ct):Ct:=match l with | [x]=>x | _=> .u
def xu.enc:(s:xu)->s.T->AC
 | .c t,x=> .c (hdC (uV [t] x)) | .a ts,x=> .a (uV ts x) | .p k,_=> .p k | .f g ks,_=> .f g ks | .al k j,_=> .al k j | .io τ,x=> .io τ x
theorem BN {b:Bool} {x:Unit} (h:B3 b=some x):b=true:=by cases b<;>first | rfl | cases h
theorem xu.IN {s:xu} {y:AC} {x:s.T} (h:s.dec y=some x):y=s.enc x:=by
 cases s with
 | c t =>
  cases y with
  | c z =>
   have e:=sD (h:rF [t] [z]=some x)
   show AC.c z= .c (hdC (uV [t] x))
   rw [← e]; rfl
  | _=>cases t<;>cases h
 | a ts =>
  cases y with
  | a z =>
   show AC.a z= .a (uV ts x)
   rw [← sD (h:rF ts z=some x)]
  | _=>cases h
 | p k =>
  cases y with
  | p k'=>have:=aG (BN (h:B3 (Nat.beq k k')=some x)); subst this; rfl
  | _=>cases h
 | f g ks =>
  cases y with
  | f g' ks' =>
   have hk:(Nat.beq g g'&&D5 ks ks')=true:=BN (h:B3 (Nat.beq g g'&&D5 ks ks')=some x)
   simp only [zB] at hk
   have h1:=aG hk.1
   have h2:=EA hk.2
   subst h1; subst h2; rfl
  | _=>cases h
 | al k j =>
  cases y with
  | al k' j' =>
   have hk:(Nat.beq k k'&&Nat.beq j j')=true:=BN (h:B3 (Nat.beq k k'&&Nat.beq j j')=some x)
   simp only [zB] at hk
   have h1:=aG hk.1
   have h2:=aG hk.2
   subst h1; subst h2; rfl
  | _=>cases h
 | io τ =>
  cases y with
  | io σ xs =>
   have h:yR τ σ xs=some x:=h
   show AC.io σ xs= .io τ x
   have e:=(AQ h).2
   injection e with h1 h2
   subst h1
   rw [eq_of_heq h2]
  | _=>cases h
def ON:List xu->Type
 | []=>Unit
 | s::l=>s.T×ON l
def BF:(ss:List xu)->List AC->Option (ON ss)
 | [],[]=>some ()
 | s::ss,v::l=>match s.dec v with
  | some x=>match BF ss l with | some y=>some (x,y) | none=>none
  | none=>none
 | _,_=>none
def FT:(ss:List xu)->ON ss->List AC
 | [],_=>[]
 | s::ss,(x,y)=>s.enc x::FT ss y
theorem Gu:∀ {ts:List xu} {l:List AC} {h:ON ts},BF ts l=some h->l=FT ts h
 | [],[],_,_=>rfl
 | [],_::_,_,h=>by cases h
 | _::_,[],_,h=>by cases h
 | t::ts,v::l,(x,y),h=>by
  simp only [BF] at h
  cases hv:t.dec v with
  | none=>rw [hv] at h; cases h
  | some x' =>
   cases hl:BF ts l with
   | none=>rw [hv,hl] at h; cases h
   | some y' =>
    rw [hv,hl] at h
    simp only [zA,zG] at h
    obtain ⟨rfl,rfl⟩:=h
    simp only [FT]
    rw [xu.IN hv,Gu hl]
def O7:List (List (Option VT))->Type
 | []=>Unit
 | s::l=>CT s×O7 l
def Bi:(ss:List (List (Option VT)))->List (List Ct)->Option (O7 ss)
 | [],[]=>some ()
 | s::ss,v::l=>match rF s v with
  | some x=>match Bi ss l with | some y=>some (x,y) | none=>none
  | none=>none
 | _,_=>none
def F4:(ss:List (List (Option VT)))->O7 ss->List (List Ct)
 | [],_=>[]
 | s::ss,(x,y)=>uV s x::F4 ss y
theorem GP:∀ {ts:List (List (Option VT))} {l:List (List Ct)} {h:O7 ts},Bi ts l=some h->l=F4 ts h
 | [],[],_,_=>rfl
 | [],_::_,_,h=>by cases h
 | _::_,[],_,h=>by cases h
 | t::ts,v::l,(x,y),h=>by
  simp only [Bi] at h
  cases hv:rF t v with
  | none=>rw [hv] at h; cases h
  | some x' =>
   cases hl:Bi ts l with
   | none=>rw [hv,hl] at h; cases h
   | some y' =>
    rw [hv,hl] at h
    simp only [zA,zG] at h
    obtain ⟨rfl,rfl⟩:=h
    simp only [F4]
    rw [sD hv,GP hl]
variable {R:Type}
abbrev uQ (as:List xu) (vs:List (List (Option VT))) (G:ON as->O7 vs->(CR->Option R)->Option R):zc R:=fun cf cH k=>match BF as cf with
 | none=>none
 | some a=>match Bi vs cH with
  | none=>none
  | some v=>G a v k
structure LF (R:Type) where
 id:Nat
 i:Nat
 ts:List VT
 F:Nat->HL ts->(Ex->St->Option R)->Option R
def xU (id i:Nat):List (LF R)->Option (LF R)
 | []=>none
 | x::l=>match Nat.beq x.id id,Nat.beq x.i i with | true,true=>some x | _,_=>xU id i l
abbrev LF.run (x:LF R) (m:Nat) (l:List mX) (K:Ex->St->Option R):Option R:=match Iu x.ts l with | none=>none | some h=>x.F m h K
abbrev wa (tab:List (LF R)) (m:Nat):Loop R:=fun id i l K=>match xU id i tab with | none=>none | some x=>x.run m l K
theorem u0 {id i:Nat}:∀ {tab:List (LF R)} {x:LF R},xU id i tab=some x->x∈tab/\x.id=id/\x.i=i
 | [],_,h=>by cases h
 | y::l,x,h=>by
  simp only [xU] at h
  revert h; split
  ·rename_i h1 h2
   intro h; cases h
   exact ⟨zO,aG h1,aG h2⟩
  ·intro h
   obtain ⟨a,b⟩:=u0 h
   exact ⟨zJ _ a,b⟩
variable {X:Ctx} {E:Env R} {L:Live} {body:Code}
structure RJ (X:Ctx) (E:Env R) (L:Live) (body:Code) (tab:List (LF R)) (x:LF R):Prop where
 z:∀ h K,x.F 0 h K=none
 s:∃ c,getLoop x.id body=some c/\∀ m h K,round X E L (wa tab m) c x.i (Og x.ts h) K=x.F (m+1) h K
theorem N0 {tab:List (LF R)} (HC:fv (tX body)=true) (h:∀ x∈tab,RJ X E L body tab x):GH X E L body (wa tab):=by
 refine ⟨fun id i l=> ?_,fun n id i l=> ?_,HC⟩
 ·funext K
  simp only [wa]
  cases hf:xU id i tab with
  | none=>rfl
  | some x =>
   simp only [LF.run]
   cases hd:Iu x.ts l with
   | none=>rfl
   | some a=>exact (h x (u0 hf).1).z a K
 ·cases hf:xU id i tab with
  | none=>refine .inl ?_; funext K; simp only [wa,hf]
  | some x =>
   obtain ⟨hx,rfl,rfl⟩:=u0 hf
   cases hd:Iu x.ts l with
   | none=>refine .inl ?_; funext K; simp only [wa,hf,LF.run,hd]
   | some a =>
    obtain ⟨c,hc,hs⟩:=(h x hx).s
    refine .inr ⟨c,hc,?_⟩
    funext K
    simp only [wa,hf,LF.run,hd]
    rw [← hs n a K,← JS hd]
abbrev CY (l:List (Nat×(ub×zc R))):Env R:=⟨fun f=>match lk l f with | some p=>some p.1 | none=>none,fun f=>match lk l f with | some p=>p.2 | none=>fun _ _ _=>none⟩
theorem OU {l:List (Nat×(ub×zc R))} (h:∀ p∈l,AL X p.2.1 p.1 p.2.2/\vt X.P p.1):sM X (CY l):=by
 refine ⟨fun f g hg=> ?_,fun f cf cH=> ?_⟩
 ·have hg:(match lk l f with | some p=>some p.1 | none=>none)=some g:=hg
  cases hl:lk l f with
  | none=>rw [hl] at hg; cases hg
  | some p =>
   rw [hl] at hg; cases hg
   obtain ⟨h1,h2⟩:=h (f,p) (cO hl)
   refine ⟨?_,h2⟩
   have:(CY l).fn f=p.2:=by show (match lk l f with | some p=>p.2 | none=>fun _ _ _=>none)=_; rw [hl]
   rw [this]; exact h1
 ·show gx ((match lk l f with | some p=>p.2 | none=>fun _ _ _=>none) cf cH)
  cases hl:lk l f with
  | none=>exact gx.none
  | some p=>exact (h (f,p) (cO hl)).1.FA cf cH
theorem U5 (r0:R) (hX:iy X) {env:List (Nat×(ub×zc R))} (hE:∀ p∈env,AL X p.2.1 p.1 p.2.2/\vt X.P p.1) {L:Live} {g:ub} {f:FuncId} {fn:Func} {body:Code} {tab:List (LF R)}
  {as:List xu} {vs:List (List (Option VT))} {G:ON as->O7 vs->(CR->Option R)->Option R} (n:Nat)
  (hf:X.P.funcs[f]? =some fn) (hb:fn.body=some body) (HC:fv (tX body)=true) (hl:∀ x∈tab,RJ (X.at fn) (CY env) L body tab x)
  (hF:∀ a v k,Dj X (CY env) L (wa tab n) g fn (FT as a) (F4 vs v) k=G a v k):AL X g f (uQ as vs G):=by
 refine WS r0 hX (OU hE) hf hb (N0 HC hl) fun cf cH=> ?_
 cases h1:BF as cf with
 | none=>refine .inl ?_; funext k; simp only [uQ,h1]
 | some a =>
  cases h2:Bi vs cH with
  | none=>refine .inl ?_; funext k; simp only [uQ,h1,h2]
  | some v =>
   refine .inr ⟨n,?_⟩
   funext k
   simp only [uQ,h1,h2]
   rw [← hF a v k,← Gu h1,← GP h2]
theorem enters {P:Program} {f:FuncId} {fn:Func} (h:P.funcs[f]? =some fn) (h1:(fn.name == "runtime.NumGoroutine")=false) (h2:fn.body.isNone=false):vt P f:=⟨fn,h,h1,h2⟩
end Go.Soft
namespace Go.Soft
open Go
def ctB:Ct->Value->Bool
 | .b x,.bool y=>(match x,y with | true,true | false,false=>true | _,_=>false)
 | .i k n,.int k' n'=>Fy k k'&&decide (n=n')
 | .s x,.string y=>decide (x=y)
 | .l _ [],.slice none 0 0=>true
 | _,_=>false
def Ry:List Ct->List Value->Bool
 | [],[]=>true
 | c::l,v::m=>ctB c v&&Ry l m
 | _,_=>false
theorem Uf {c:Ct} {v:Value} (h:ctB c v=true):v=gu c:=by
 revert h
 unfold ctB
 split
 ·intro h; rename_i x y; cases x<;>cases y<;>first | rfl | cases h
 ·intro h
  simp only [zB,zD] at h
  rw [qN h.1,h.2]; rfl
 ·intro h
  simp only [zD] at h
  rw [h]; rfl
 ·intro _; rfl
 ·intro h; cases h
theorem JT:∀ {l:List Ct} {m:List Value},Ry l m=true->m=l.map gu
 | [],[],_=>rfl
 | [],_::_,h=>by cases h
 | _::_,[],h=>by cases h
 | c::l,v::m,h=>by
  simp only [Ry,zB] at h
  rw [List.map_cons,Uf h.1,JT h.2]
def YX (P:Program) (id:Ty->TypeId) (e:Nat) (τ:Ty):Bool:=match P.info? e with
 | none=>false
 | some i=>Nat.beq i.size (sz τ)&&(match Nat.beq (id τ) e with
  | false=>true
  | true=>match i.zero with | some z=>Ry (cells τ (ch τ)) z.cells.toList&&Nat.ble i.bytes 128 | none=>false)
def Pu (P:Program) (e:Nat) (τ:Ty):Bool:=match τ with
 | .byte=>(match P.underlying e with | some (.int .u8)=>true | _=>false)
 | _=>true
def RS (X:Ctx):List (Nat×Ty)->Bool
 | []=>true
 | (e,τ)::l=>(YX X.P X.id e τ&&Pu X.P e τ)&&RS X l
theorem vU {X:Ctx}:∀ {l:List (Nat×Ty)},RS X l=true->∀ e τ,(e,τ)∈l->YX X.P X.id e τ=true/\Pu X.P e τ=true
 | [],_,e,τ,h=>by cases h
 | (e',τ')::l,h,e,τ,hm=>by
  simp only [RS,zB] at h
  rcases zI.1 hm with hm | hm
  ·cases hm; exact h.1
  ·exact vU h.2 e τ hm
theorem OZ {X:Ctx} (h:RS X X.ty=true) (heq:∀ t ks,lk X.eqs t=some ks->StructEq X.P t ks) (hm:X.P.follows .mixedOrders=true):iy X:=by
 refine ⟨fun e τ hl=> ?_,fun e τ hl oV=> ?_,fun e hl=> ?_,heq,hm⟩
 ·have:=(vU h e τ (cO hl)).1
  simp only [YX] at this
  cases hi:X.P.info? e with
  | none=>rw [hi] at this; cases this
  | some i =>
   rw [hi] at this
   simp only [zB] at this
   exact ⟨i,rfl,aG this.1⟩
 ·have:=(vU h e τ (cO hl)).1
  simp only [YX] at this
  cases hi:X.P.info? e with
  | none=>rw [hi] at this; cases this
  | some i =>
   rw [hi,oV] at this
   simp only [zB,Nat.beq_refl] at this
   cases hz:i.zero with
   | none=>rw [hz] at this; exact absurd this.2 (by simp)
   | some z =>
    rw [hz] at this
    have h2:=this.2
    simp only [zB] at h2
    exact ⟨i,z,rfl,hz,JT h2.1,zQ h2.2⟩
 ·have:=(vU h e .byte (cO hl)).2
  simp only [Pu] at this
  revert this; split
  ·rename_i hu; intro _; exact hu
  ·intro h; cases h
theorem adq {X:Ctx} (h:X.eqs=[]):∀ t ks,lk X.eqs t=some ks->StructEq X.P t ks:=by
 intro t ks ht; rw [h] at ht; cases ht
def aC (n:Int):Int:=IntKind.i64.wrap n
def lV (a b:ByteArray):Bool:=decide (a.size+b.size<=4611686018427387904)
def Xm (a b:Int):Bool:=(a==b)&&(decide (0<=a)&&Nat.ble a.toNat M6)
def bg {α:Type} (l:List α):Bool:=Nat.ble l.length M6
def qd (l:Int) (n:Nat):Bool:=decide (0<=l)&&decide (l<=(n:Int))
def j7 (l h:Int) (n:Nat):Bool:=decide (0<=l)&&(decide (l<=h)&&decide (h<=(n:Int)))
def S (l:List UInt8):ByteArray:=⟨⟨l⟩⟩
def eS:ByteArray:= .empty
def yT (l:List UInt8):ByteArray:=⟨⟨l⟩⟩
def au:Slot:=ch .slot
def ay:aX:=ch .inode
def aA:Block:=ch .block
def aH:bE:=ch .dep
def eu:Node:=ch .node
end Go.Soft
namespace Go.Soft
open Go
theorem Ij {R:Type} (r0:R) {X:Ctx} {g:ub} {f:FuncId} {as:List xu} {vs:List (List (Option VT))} {G:ON as->O7 vs->(CR->Option R)->Option R} (h:∀ a v k,G a v k=none):AL X g f (uQ as vs G):=by
 have hn:∀ cf cH,uQ as vs G cf cH=fun _=>none:=by
  intro cf cH
  funext k
  simp only [uQ]
  cases BF as cf with
  | none=>rfl
  | some a =>
   cases Bi vs cH with
   | none=>rfl
   | some v=>exact h a v k
 exact ⟨fun cf cH=>by rw [hn]; exact gx.none,fun cf cH cr hK=>by rw [hn] at hK; exact (bM r0 hK).elim⟩
end Go.Soft
namespace Go.Soft
open Go
variable {P:Program} {M:Lk} {γ:Gh} {w:World}
def YV (P:Program):Nat->List Ct->List Field->Bool
 | _,[],[]=>true
 | i,c::l,f::fs=>(Nat.beq f.offset i&& !(f.name == "_"))&&((match P.info? f.type with | some _=>true | none=>false)&&(match P.underlying f.type,c with
   | some .bool,.b _=>true | some .string,.s _=>true | some (.int _),.i _ _=>true | _,_=>false))&&YV P (i+1) l fs
 | _,_,_=>false
theorem JH {us:List Value} {i:Nat} {u:Value} {t:TypeId} (hu:us[i]? =some u) (ht:P.underlying t=some .bool\/P.underlying t=some .string\/∃ k,P.underlying t=some (.int k)) :
  (part t us.toArray i).run P w= .ok u w:=by
 have No:(isAgg t).run P w= .ok false w:=by
  rcases ht with h | h | ⟨k,h⟩<;>simp [isAgg,run_underlying h]
 simp only [part,Sem.run_bind,No,Result.andThen_ok,Bool.false_eq_true,if_false]
 simp [hu]
theorem uK {x:Cv} {l:List Cv} {us:List Value} {i:Nat} (h:ca M γ (x::l) (us.drop i)):∃ u,us[i]? =some u/\bq M γ x u/\ca M γ l (us.drop (i+1)):=by
 generalize hd:us.drop i=r at h
 cases h with
 | cons hx hl =>
  rename_i u us'
  have h0:us[i]? =some u:=by
   have:=congrArg (fun l=>l[0]?) hd
   simpa [List.getElem?_drop] using this
  have h1:us.drop (i+1)=us':=by
   have:=congrArg List.tail hd
   simpa [List.tail_drop] using this
  exact ⟨u,h0,hx,h1▸hl⟩
theorem Te {us vs:List Value} {d:Nat}:∀ {fs:List Field} {ks:List Ct} {i:Nat} {l m:List Cv},YV P i ks fs=true->m4 ks l=true->m4 ks m=true->ca M γ l (us.drop i)->ca M γ m (vs.drop i)->∀ c,yG l m=some c ->
  (Op.eqFields (d+1) us.toArray vs.toArray fs).run P w= .ok c w
 | [],[],i,l,m,_,h1,h2,_,_,c,hc=>by
  cases l with
  | cons=>cases h1
  | nil =>
   cases m with
   | cons=>cases h2
   | nil=>cases hc; rfl
 | [],_::_,_,_,_,hs,_,_,_,_,_,_=>by cases hs
 | _::_,[],_,_,_,hs,_,_,_,_,_,_=>by cases hs
 | f::fs,k::ks,i,l,m,hs,h1,h2,hu,hv,c,hc=>by
  cases l with
  | nil=>cases h1
  | cons x l =>
   cases m with
   | nil=>cases h2
   | cons y m =>
    simp only [YV,zB] at hs
    obtain ⟨⟨⟨ho,hn⟩,_,hk⟩,hs⟩:=hs
    have ho:=aG ho
    have hn:f.name ≠ "_" := by simpa using hn
    simp only [m4,zB] at h1 h2
    obtain ⟨u,u1,u2,u3⟩:=uK hu
    obtain ⟨v,v1,v2,v3⟩:=uK hv
    simp only [yG] at hc
    cases MZ:N2 x y with
    | none=>rw [MZ] at hc; cases hc
    | some a =>
     cases Tl:yG l m with
     | none=>rw [MZ,Tl] at hc; cases hc
     | some b =>
      rw [MZ,Tl] at hc
      have CQ:c=(a&&b):=by
       cases l with
       | nil =>
        cases m with
        | nil=>cases Tl; simp at hc; rw [← hc]; simp
        | cons=>cases Tl
       | cons=>simp at hc; exact hc.symm
      have ih:=Te (us:=us) (vs:=vs) (d:=d) hs h1.2 h2.2 u3 v3 b Tl
      have fld:(P.underlying f.type=some .bool\/P.underlying f.type=some .string\/∃ k,P.underlying f.type=some (.int k))/\(Op.equalIn (d+1) f.type u v).run P w= .ok a w:=by
       revert hk; split
       ·rename_i ht
        intro _
        refine ⟨.inl ht,?_⟩
        cases x<;>cases y<;>simp [Kf] at h1 h2
        simp only [N2,zA] at MZ
        rw [show u=_ from u2,show v=_ from v2,run_equalIn_bool' _ _ _ _ _ ht,MZ]
       ·rename_i ht
        intro _
        refine ⟨.inr (.inl ht),?_⟩
        cases x<;>cases y<;>simp [Kf] at h1 h2
        simp only [N2,zA] at MZ
        rw [show u=_ from u2,show v=_ from v2,run_equalIn_string _ _ _ _ _ ht,← beq_toListBytes,MZ]
       ·rename_i k' n ki ht
        intro _
        refine ⟨.inr (.inr ⟨_,ht⟩),?_⟩
        cases x<;>cases y<;>simp only [Kf,Bool.false_eq_true,false_and] at h1 h2
        rename_i ka na kb nb
        have e1:=qN h1.1
        have e2:=qN h2.1
        simp only [N2,zA] at MZ
        rw [show u=_ from u2,show v=_ from v2,← e1,← e2,run_equalIn_int _ _ _ _ _ _ _ ht,MZ]
       ·intro h; cases h
      simp only [Op.eqFields,if_pos hn,Sem.run_bind,ho]
      rw [JH u1 fld.1]
      simp only [Result.andThen_ok]
      rw [JH v1 fld.1]
      simp only [Result.andThen_ok,fld.2,CQ]
      cases a with
      | false=>simp
      | true=>simpa using ih
theorem Hg {t:TypeId} {ks:List Ct} {fs:Array Field} (ht:P.underlying t=some (.struct fs)) (hp:P.stoodInHeld t=false) (hg:P.eqGuardType P.depth t=false) (hs:YV P 0 ks fs.toList=true):StructEq P t ks:=by
 intro l m us vs c γ M w h1 h2 hu hv hc
 have hf:P.fieldsOf t=fs:=by simp only [Program.fieldsOf,ht]
 have Jq:P.underlying t=some (.struct (P.fieldsOf t)):=by rw [hf]; exact ht
 simp only [Sem.run_bind,run_eqGuard_agg w .eql t (.tmp 0) (.tmp 0) us.toArray vs.toArray hg,Result.andThen_ok]
 show (Op.equalIn (9999+1) t (.agg us.toArray) (.agg vs.toArray)).run P w=_
 rw [run_equalIn_struct w 9999 t _ _ Jq hp,hf]
 exact Te (d:=9998) hs h1 h2 (by simpa using hu) (by simpa using hv) c hc
end Go.Soft
namespace Go.Soft
open Go
variable {R:Type}
def Cu:List VT->Type->Type
 | [],Y=>Y
 | t::ts,Y=>t.T->Cu ts Y
abbrev apH {Y:Type}:(ts:List VT)->Cu ts Y->HL ts->Y
 | [],f,_=>f
 | _::ts,f,h=>apH ts (f h.1) h.2
def CuA:List xu->Type->Type
 | [],Y=>Y
 | s::l,Y=>s.T->CuA l Y
abbrev apA {Y:Type}:(ss:List xu)->CuA ss Y->ON ss->Y
 | [],f,_=>f
 | _::l,f,h=>apA l (f h.1) h.2
def ZK:List (List (Option VT))->Type->Type
 | [],Y=>Y
 | s::l,Y=>CT s->ZK l Y
abbrev apV {Y:Type}:(ss:List (List (Option VT)))->ZK ss Y->O7 ss->Y
 | [],f,_=>f
 | _::l,f,h=>apV l (f h.1) h.2
def V8:(ts:List VT)->(HL ts->Prop)->Prop
 | [],p=>p ()
 | _::ts,p=>∀ x,V8 ts fun y=>p (x,y)
theorem V8.all:∀ {ts:List VT} {p:HL ts->Prop},V8 ts p->∀ h,p h
 | [],_,h,_=>h
 | _::ts,p,h,(x,y)=>V8.all (ts:=ts) (p:=fun y=>p (x,y)) (h x) y
def M9:(ts:List (Option VT))->(CT ts->Prop)->Prop
 | [],p=>p ()
 | some t::ts,p=>∀ x:t.T,M9 ts fun y=>p (x,y)
 | none::ts,p=>M9 ts p
theorem M9.all:∀ {ts:List (Option VT)} {p:CT ts->Prop},M9 ts p->∀ h,p h
 | [],_,h,_=>h
 | some _::ts,p,h,(x,y)=>M9.all (ts:=ts) (p:=fun y=>p (x,y)) (h x) y
 | none::ts,p,h,y=>M9.all (ts:=ts) (p:=p) h y
def Y2:(s:xu)->(s.T->Prop)->Prop
 | .c t,p=>M9 [t] p
 | .a ts,p=>M9 ts p
 | .io _,p=>∀ x,p x
 | .p _,p=>p ()
 | .f _ _,p=>p ()
 | .al _ _,p=>p ()
theorem Y2.all {s:xu} {p:s.T->Prop} (h:Y2 s p):∀ x,p x:=by
 cases s with
 | c t=>exact M9.all (ts:=[t]) h
 | a ts=>exact M9.all (ts:=ts) h
 | io τ=>exact h
 | p k=>exact fun _=>h
 | f g l=>exact fun _=>h
 | al k j=>exact fun _=>h
def Xj:(ss:List xu)->(ON ss->Prop)->Prop
 | [],p=>p ()
 | s::l,p=>Y2 s fun x=>Xj l fun y=>p (x,y)
theorem Xj.all:∀ {ss:List xu} {p:ON ss->Prop},Xj ss p->∀ h,p h
 | [],_,h,_=>h
 | s::l,p,h,(x,y)=>Xj.all (ss:=l) (p:=fun y=>p (x,y)) (Y2.all (s:=s) h x) y
def WX:(ss:List (List (Option VT)))->(O7 ss->Prop)->Prop
 | [],p=>p ()
 | s::l,p=>M9 s fun x=>WX l fun y=>p (x,y)
theorem WX.all:∀ {ss:List (List (Option VT))} {p:O7 ss->Prop},WX ss p->∀ h,p h
 | [],_,h,_=>h
 | s::l,p,h,(x,y)=>WX.all (ss:=l) (p:=fun y=>p (x,y)) (M9.all (ts:=s) h x) y
abbrev lf (id i:Nat) (ts:List VT) (F:Nat->(Ex->St->Option R)->Cu ts (Option R)):LF R:=⟨id,i,ts,fun m h K=>apH ts (F m K) h⟩
structure FD (R:Type) where
 f:FuncId
 g:ub
 as:List xu
 vs:List (List (Option VT))
 G:ON as->O7 vs->(CR->Option R)->Option R
abbrev fd (f:FuncId) (g:ub) (as:List xu) (vs:List (List (Option VT))) (F:(CR->Option R)->CuA as (ZK vs (Option R))):FD R:=⟨f,g,as,vs,fun a v k=>apV vs (apA as (F k) a) v⟩
abbrev FD.e (d:FD R):Nat×(ub×zc R):=(d.f,(d.g,uQ d.as d.vs d.G))
structure FD.Ok (X:Ctx) (d:FD R):Prop where
 ok:AL X d.g d.f (uQ d.as d.vs d.G)
 en:vt X.P d.f
inductive Es (X:Ctx):List (Nat×(ub×zc R))->Prop
 | n:Es X []
 | c {d:FD R} {l} (h:d.Ok X) (t:Es X l):Es X (d.e::l)
theorem Es.all {X:Ctx} {l:List (Nat×(ub×zc R))} (h:Es X l):∀ p∈l,AL X p.2.1 p.1 p.2.2/\vt X.P p.1:=by
 induction h with
 | n=>intro p hp; cases hp
 | c h t ih =>
  intro p hp
  rcases zI.1 hp with rfl | hp
  ·exact ⟨h.ok,h.en⟩
  ·exact ih p hp
def D8 (fn:Func):Code:=fn.body.getD .skip
def Y4 (fn:Func):Bool:= !(fn.name == "runtime.NumGoroutine")&&(!fn.body.isNone&&fv (tX (D8 fn)))
inductive Ts (X:Ctx) (E:Env R) (L:Live) (body:Code) (T:List (LF R)):List (LF R)->Prop
 | n:Ts X E L body T []
 | c' {x:LF R} {l} (h:RJ X E L body T x) (t:Ts X E L body T l):Ts X E L body T (x::l)
theorem Ts.c {X:Ctx} {E:Env R} {L:Live} {body:Code} {T:List (LF R)} {x:LF R} {l:List (LF R)} (t:Ts X E L body T l) (hz:V8 x.ts fun h=>∀ K,x.F 0 h K=none:=by (repeat intro _); kernel_rfl)
  (hs:(getLoop x.id body).isSome=true:=by kernel_rfl) (hr:∀ m,V8 x.ts fun h=>∀ K,round X E L (wa T m) ((getLoop x.id body).getD .skip) x.i (Og x.ts h) K=x.F (m+1) h K:=by (repeat intro _); kernel_rfl):Ts X E L body T (x::l):=by
 refine .c' ⟨hz.all,?_⟩ t
 cases hc:getLoop x.id body with
 | none=>rw [hc] at hs; cases hs
 | some c=>rw [hc] at hr; exact ⟨c,rfl,fun m h K=>(hr m).all h K⟩
theorem Ts.all {X:Ctx} {E:Env R} {L:Live} {body:Code} {T l:List (LF R)} (h:Ts X E L body T l):∀ x∈l,RJ X E L body T x:=by
 induction h with
 | n=>intro p hp; cases hp
 | c' h t ih =>
  intro p hp
  rcases zI.1 hp with rfl | hp
  ·exact h
  ·exact ih p hp
theorem FD.Ok.of (r0:R) {X:Ctx} (hX:iy X) {d:FD R} {env:List (Nat×(ub×zc R))} (L:Live) (tab:List (LF R)) (n:Nat) {fn:Func} (hf:X.P.funcs[d.f]? =some fn) (hE:Es X env)
  (hl:Ts (X.at fn) (CY env) L (D8 fn) tab tab) (hc:Y4 fn=true:=by kernel_rfl)
  (hF:Xj d.as fun a=>WX d.vs fun v=>∀ k,Dj X (CY env) L (wa tab n) d.g fn (FT d.as a) (F4 d.vs v) k=d.G a v k:=by (repeat intro _); kernel_rfl):d.Ok X:=by
 simp only [Y4,zB,Bool.not_eq_true'] at hc
 obtain ⟨h1,h2,h3⟩:=hc
 refine ⟨U5 r0 hX hE.all (L:=L) (tab:=tab) (body:=D8 fn) n hf ?_ h3 hl.all (fun a v k=>(hF.all a).all v k),enters hf h1 h2⟩
 cases hb:fn.body with
 | none=>rw [hb] at h2; cases h2
 | some b=>simp [D8,hb]
theorem FD.Ok.zero (r0:R) {X:Ctx} {d:FD R} (hz:∀ a v k,d.G a v k=none:=by intros; kernel_rfl) {fn:Func} (hf:X.P.funcs[d.f]? =some fn) (hc:Y4 fn=true:=by kernel_rfl):d.Ok X:=by
 simp only [Y4,zB,Bool.not_eq_true'] at hc
 exact ⟨Ij r0 hz,enters hf hc.1 hc.2.1⟩
theorem Ul {P:Program} {l:List (Nat×List Ct)} (h:∀ p∈l,StructEq P p.1 p.2):∀ t ks,lk l t=some ks->StructEq P t ks:=fun t ks ht=>h (t,ks) (cO ht)
end Go.Soft
namespace Go.Soft
open Go
structure aq where
 ab:List Bool
 bD:List Bool
structure aa where
 aq:aq
 ad:List aX
 ab:List Block
structure Mem where
 aa:aa
 ak:List Bool
 ae:List bE
 Next:Int
structure Device where
 cq:List ByteArray
structure Fs where
 Mem:Mem
 Device:Device
structure dP where
 b:List UInt8
 i:Int
 h:Int
structure World where
 Fs:Fs
 Model:List Node
 jl:List Int
 Kept:List Node
def oI:Option VT:=some (.i .i64)
def oB:Option VT:=some .b
def oS:Option VT:=some .s
def oL (τ:Ty):Option VT:=some (.l τ)
def cI (n:Int):Ct:= .i .i64 n
def aI:xu:= .c oI
def aB:xu:= .c oB
def aS:xu:= .c oS
def aL (τ:Ty):xu:= .c (oL τ)
abbrev Ud:List (Option VT):=[oS,oI]
def aaS (a:CT Ud):Slot:=⟨a.1,a.2.1⟩
abbrev qY:List (Option VT):=[oI,oI,oL .int]
def tI (a:CT qY):aX:=⟨a.1,a.2.1,a.2.2.1⟩
def qA (r:aX):List Ct:=[cI r.Kind,cI r.Links,.l .int r.ax]
abbrev o5:List (Option VT):=[oB,oL .slot,oS]
def qt (a:CT o5):Block:=⟨a.1,a.2.1,a.2.2.1⟩
def o9 (r:Block):List Ct:=[.b r.cp,.l .slot r.an,.s r.Text]
abbrev Dm:List (Option VT):=[oI,oI,oI,oI,oI,oI,oS,oB,oB,oI,oL .int]
def Gi (a:CT Dm):bE:=⟨a.1,a.2.1,a.2.2.1,a.2.2.2.1,a.2.2.2.2.1,a.2.2.2.2.2.1,a.2.2.2.2.2.2.1,a.2.2.2.2.2.2.2.1,a.2.2.2.2.2.2.2.2.1,a.2.2.2.2.2.2.2.2.2.1,a.2.2.2.2.2.2.2.2.2.2.1⟩
def XD (r:bE):List Ct:=[cI r.Id,cI r.Kind,cI r.Ino,cI r.Ptr,cI r.Block,cI r.Slot,.s r.Name,.b r.aq,.b r.et,cI r.bz,.l .int r.ab]
abbrev zu:List (Option VT):=[oI,oS,oS,oI,oS]
def EG (a:CT zu):Event:=⟨a.1,a.2.1,a.2.2.1,a.2.2.2.1,a.2.2.2.2.1⟩
def Rp (r:Event):List Ct:=[cI r.Kind,.s r.Path,.s r.To,cI r.At,.s r.Text]
abbrev Ad:List (Option VT):=[oL .bool,oL .bool]
def EJ (a:CT Ad):aq:=⟨a.1,a.2.1⟩
def BS (r:aq):List Ct:=[.l .bool r.ab,.l .bool r.bD]
abbrev js:List (Option VT):=[oL .bool,oL .bool,oL .inode,oL .block]
def km (a:CT js):aa:=⟨⟨a.1,a.2.1⟩,a.2.2.1,a.2.2.2.1⟩
def s7 (r:aa):List Ct:=[.l .bool r.aq.ab,.l .bool r.aq.bD,.l .inode r.ad,.l .block r.ab]
abbrev sG:List (Option VT):=[oL .str]
def wC (a:CT sG):Device:=⟨a.1⟩
def FW (r:Device):List Ct:=[.l .str r.cq]
abbrev ey:List (Option VT):=[oL .bool,oL .bool,oL .inode,oL .block,oL .bool,oL .dep,oI]
def eE (a:CT ey):Mem:=⟨⟨⟨a.1,a.2.1⟩,a.2.2.1,a.2.2.2.1⟩,a.2.2.2.2.1,a.2.2.2.2.2.1,a.2.2.2.2.2.2.1⟩
def gB (r:Mem):List Ct:=[.l .bool r.aa.aq.ab,.l .bool r.aa.aq.bD,.l .inode r.aa.ad,.l .block r.aa.ab,.l .bool r.ak,.l .dep r.ae,cI r.Next]
abbrev O4:List (Option VT):=[oL .bool,oL .bool,oL .inode,oL .block,oL .bool,oL .dep,oI,oL .str]
def Rw (a:CT O4):Fs:=⟨⟨⟨⟨a.1,a.2.1⟩,a.2.2.1,a.2.2.2.1⟩,a.2.2.2.2.1,a.2.2.2.2.2.1,a.2.2.2.2.2.2.1⟩,⟨a.2.2.2.2.2.2.2.1⟩⟩
def LH (r:Fs):List Ct:=[.l .bool r.Mem.aa.aq.ab,.l .bool r.Mem.aa.aq.bD,.l .inode r.Mem.aa.ad,.l .block r.Mem.aa.ab,.l .bool r.Mem.ak,.l .dep r.Mem.ae,cI r.Mem.Next,.l .str r.Device.cq]
abbrev kq:List (Option VT):=[oL .byte,oI,oI]
def kQ (a:CT kq):dP:=⟨a.1,a.2.1,a.2.2.1⟩
def kO (r:dP):List Ct:=[.l .byte r.b,cI r.i,cI r.h]
abbrev Fa:List (Option VT):=[oL .bool,oL .bool,oL .inode,oL .block,oL .bool,oL .dep,oI,oL .str,oL .node,oL .int,oL .node]
def JJ (a:CT Fa):World:=⟨⟨⟨⟨⟨a.1,a.2.1⟩,a.2.2.1,a.2.2.2.1⟩,a.2.2.2.2.1,a.2.2.2.2.2.1,a.2.2.2.2.2.2.1⟩,⟨a.2.2.2.2.2.2.2.1⟩⟩,a.2.2.2.2.2.2.2.2.1,a.2.2.2.2.2.2.2.2.2.1,a.2.2.2.2.2.2.2.2.2.2.1⟩
def QX (r:World):List Ct:=[.l .bool r.Fs.Mem.aa.aq.ab,.l .bool r.Fs.Mem.aa.aq.bD,.l .inode r.Fs.Mem.aa.ad,.l .block r.Fs.Mem.aa.ab,.l .bool r.Fs.Mem.ak,.l .dep r.Fs.Mem.ae,cI r.Fs.Mem.Next,.l .str r.Fs.Device.cq,.l .node r.Model,.l .int r.jl,.l .node r.Kept]
def rC:List Ct->List Rc
 | []=>[]
 | x::l=> .c x::rC l
def rI (n:Int):Rc:= .c (cI n)
def rB (b:Bool):Rc:= .c (.b b)
def kg (n:Int):Bool:=decide (0<=n)&&decide (n<256)
def BC (k:IntKind) (a b:Int):Int:=k.wrap ((BitVec.ofInt k.bits a &&& BitVec.ofInt k.bits b).toNat)
def Uw (k:IntKind) (a b:Int):Int:=k.wrap ((BitVec.ofInt k.bits a ^^^ BitVec.ofInt k.bits b).toNat)
def L9 (k:IntKind) (a b:Int):Int:=a.fdiv (2 ^ (min b.toNat k.bits))
def cW (r:Nat):Cv:= .sw (500000+r)
def cN (n:Int):Cv:= .i .i64 n
def rR (r:Nat) (τ:Ty) (xs:List (El τ)) (ow:Nat):Nat×Row:=(500000+r,⟨τ,xs,ow⟩)
def hW (r:Nat):Sh:= .sw (500000+r)
def hI:Sh:= .i .i64
def hR (r:Nat) (τ:Ty) (ow:Nat):Nat×(Ty×Nat):=(500000+r,(τ,ow))
end Go.Soft
set_option maxRecDepth 100000
namespace Go.Soft
open Go
variable {R:Type}
def Ko (code:List UInt8) (k0:Bool->Option R):Option R :=
 k0 (decide (1048576<(code.length:Int)))
def jo (code:List UInt8) (q0:Int->Option R):Nat->Int->Int->Option R
 | 0,_,_=>none
 | m+1,xh,i =>
  bif (decide (i<(code.length:Int)))&&(decide (i<4000)) then
  aK (bc i code.length) <|
  jo code q0 m (BC .i64 (aC ((aC ((aC (xh*131))+(aC (((code.getD i.toNat 0).toNat:Int)))))+7)) 1073741823) (aC (i+1))
  else
  q0 xh
def sQ (n:Nat) (code:List UInt8) (k0:dP->Option R):Option R :=
 jo code (fun xh =>
  k0 ⟨code,0,xh⟩) n (aC (37701+(code.length:Int))) 0
def lU (k0:aq->Option R):Option R :=
 aK (bc 0 ((List.replicate 8 false).length)) <|
 let row:=((List.replicate 8 false).set 0 true)
 k0 ⟨(List.replicate 16 false),row⟩
def dX (kind:Int) (k0:aX->Option R):Option R :=
 bif (kind==0) then
  k0 ⟨kind,0,(List.replicate 2 0)⟩
 else
 k0 ⟨kind,1,(List.replicate 2 0)⟩
def jX (q0:(List aX)->Option R):Nat->Int->(List aX)->Option R
 | 0,_,_=>none
 | m+1,i,gY =>
  bif (decide (i<8)) then
  dX 0 fun mU =>
  let row:=(gY++([mU]))
  aK (bg row) <|
  jX q0 m (aC (i+1)) row
  else
  q0 gY
def nN (n:Nat) (k0:aa->Option R):Option R :=
 lU fun b =>
 jX (fun v =>
  dX 2 fun i =>
  aK (bc 0 v.length) <|
  let row:=(v.set 0 i)
  k0 ⟨b,row,(List.replicate 16 aA)⟩) n 0 ([])
def so (b:aq) (k0:Bool->Option R):Option R :=
 k0 (((b.ab.length:Int)==16)&&((b.bD.length:Int)==8))
def cj (x:Int) (least:Int) (most:Int) (k0:Bool->Option R):Option R :=
 k0 ((decide (least<=x))&&(decide (x<=most)))
def jW (v:Int) (dE:List Int) (q0:Bool->Option R) (q1:Option R):Nat->Int->Option R
 | 0,_=>none
 | m+1,i =>
  bif (decide (i<2)) then
  aK (bc i dE.length) <|
  cj (dE.getD i.toNat 0) 0 16 fun r =>
  aK (!((!(!r))&&(v==0))||(bc i dE.length)) <|
  bif (!r)||((v==0)&&(!((dE.getD i.toNat 0)==0))) then
   q0 false
  else
  jW v dE q0 q1 m (aC (i+1))
  else
  q1
def nQ (n:Nat) (x:aX) (k0:Bool->Option R):Option R :=
 cj x.Kind 0 2 fun r =>
 cj x.Links 0 200 fun c8 =>
 let z:=bif !(!r) then c8 else false
 bif ((!r)||(!z))||(!((x.ax.length:Int)==2)) then
  k0 false
 else
 jW x.Kind x.ax (fun kD =>
  k0 kD) (
  k0 ((!(x.Kind==0))||(x.Links==0))) n 0
def kV (s:ByteArray) (q0:Bool->Option R) (q1:Option R):Nat->Int->Option R
 | 0,_=>none
 | m+1,i =>
  bif (decide (i<(s.size:Int))) then
  aK (bc i s.size) <|
  aK (!(!(decide ((bt s i.toNat:Int)<97)))||(bc i s.size)) <|
  aK (!((decide ((bt s i.toNat:Int)<97))||(decide (122<(bt s i.toNat:Int))))||(bc i s.size)) <|
  aK (!(((decide ((bt s i.toNat:Int)<97))||(decide (122<(bt s i.toNat:Int))))&&(!(decide ((bt s i.toNat:Int)<48))))||(bc i s.size)) <|
  bif ((decide ((bt s i.toNat:Int)<97))||(decide (122<(bt s i.toNat:Int))))&&((decide ((bt s i.toNat:Int)<48))||(decide (57<(bt s i.toNat:Int)))) then
   q0 false
  else
  kV s q0 q1 m (aC (i+1))
  else
  q1
def kt (n:Nat) (s:ByteArray) (k0:Bool->Option R):Option R :=
 kV s (fun x =>
  k0 x) (
  cj (s.size:Int) 1 6 fun r =>
  k0 r) n 0
def iP (i:Int) (dE:ByteArray) (jc:List Slot) (q0:Bool->Option R) (q1:Option R):Nat->Int->Option R
 | 0,_=>none
 | m+1,xk =>
  bif (decide (xk<i)) then
  aK (bc xk jc.length) <|
  bif (((jc.getD xk.toNat au).Name)==dE) then
   q0 false
  else
  iP i dE jc q0 q1 m (aC (xk+1))
  else
  q1
def fA (n:Nat) (dE:List Slot) (q0:Bool->Option R) (q1:Option R):Nat->Int->Option R
 | 0,_=>none
 | m+1,i =>
  bif (decide (i<4)) then
  aK (bc i dE.length) <|
  let el:=(dE.getD i.toNat au)
  bif (el.Name==eS)&&(el.Ino==0) then
   fA n dE q0 q1 m (aC (i+1))
  else
  kt n el.Name fun r =>
  cj el.Ino 1 8 fun c8 =>
  let z:=bif !(!r) then c8 else false
  bif (!r)||(!z) then
   q0 false
  else
  iP i el.Name dE (fun x =>
   q0 x) (
   fA n dE q0 q1 m (aC (i+1))) m 0
  else
  q1
def p9 (n:Nat) (b:Block) (k0:Bool->Option R):Option R :=
 bif !b.cp then
  k0 (((b.an.length:Int)==0)&&(decide ((b.Text.size:Int)<=16)))
 else
 bif (!((b.an.length:Int)==4))||(!(b.Text==eS)) then
  k0 false
 else
 fA n b.an (fun x =>
  k0 x) (
  k0 true) n 0
def kR (n:Nat) (dE:List aX) (q0:Bool->Option R) (q1:Option R):Nat->Int->Option R
 | 0,_=>none
 | m+1,i =>
  bif (decide (i<(dE.length:Int))) then
  aK (bc i dE.length) <|
  let el:=(dE.getD i.toNat ay)
  nQ n el fun r =>
  bif !r then
   q0 false
  else
  kR n dE q0 q1 m (aC (i+1))
  else
  q1
def g7 (n:Nat) (fV:List Block) (q0:Bool->Option R) (q1:Option R):Nat->Int->Option R
 | 0,_=>none
 | m+1,i =>
  bif (decide (i<(fV.length:Int))) then
  aK (bc i fV.length) <|
  let el:=(fV.getD i.toNat aA)
  p9 n el fun r =>
  bif !r then
   q0 false
  else
  g7 n fV q0 q1 m (aC (i+1))
  else
  q1
def qc (n:Nat) (d:aa) (k0:Bool->Option R):Option R :=
 so d.aq fun r =>
 bif ((!r)||(!((d.ad.length:Int)==8)))||(!((d.ab.length:Int)==16)) then
  k0 false
 else
 kR n d.ad (fun x =>
  k0 x) (
  g7 n d.ab (fun kD =>
  k0 kD) (
  k0 true) n 0) n 0
def iq (list:List Bool) (q0:Int->Option R):Nat->Int->Int->Int->Option R
 | 0,_,_,_=>none
 | m+1,xn,bit,i =>
  bif (decide (i<(list.length:Int))) then
  aK (bc i list.length) <|
  bif (list.getD i.toNat false) then
   iq list q0 m (aC (xn+bit)) (aC (2*bit)) (aC (i+1))
  else
  iq list q0 m xn (aC (2*bit)) (aC (i+1))
  else
  q0 xn
def nK (n:Nat) (list:List Bool) (k0:Int->Option R):Option R :=
 iq list (fun xn =>
  k0 (IntKind.u8.wrap (xn))) n 0 1 0
def qD (n:Nat) (b:aq) (k0:ByteArray->Bool->Option R):Option R :=
 so b fun r =>
 bif !r then
  k0 eS false
 else
 aK (qd 8 b.ab.length) <|
 nK n (sub b.ab 0 8) fun c8 =>
 aK (qd 8 b.ab.length) <|
 nK n (sub b.ab 8 (b.ab.length-8)) fun dC =>
 nK n b.bD fun j0 =>
 let lit:=([(UInt8.ofNat c8.toNat),(UInt8.ofNat dC.toNat),(UInt8.ofNat j0.toNat)]:List UInt8)
 aK (kg c8&&(kg dC&&(kg j0&&true))) <|
 k0 (yT lit) true
def mO (n:Nat) (x:aX) (k0:ByteArray->Bool->Option R):Option R :=
 nQ n x fun r =>
 bif !r then
  k0 eS false
 else
 aK (bc 0 x.ax.length) <|
 aK (bc 1 x.ax.length) <|
 let lit:=([(UInt8.ofNat ((IntKind.u8.wrap (x.Kind)).toNat)),(UInt8.ofNat ((IntKind.u8.wrap (x.Links)).toNat)),(UInt8.ofNat ((IntKind.u8.wrap ((x.ax.getD 0 0))).toNat)),(UInt8.ofNat ((IntKind.u8.wrap ((x.ax.getD 1 0))).toNat))]:List UInt8)
 aK (kg (IntKind.u8.wrap (x.Kind))&&(kg (IntKind.u8.wrap (x.Links))&&(kg (IntKind.u8.wrap ((x.ax.getD 0 0)))&&(kg (IntKind.u8.wrap ((x.ax.getD 1 0)))&&true)))) <|
 k0 (yT lit) true
def mP (q0:Int->(List UInt8)->Option R):Nat->Int->(List UInt8)->Option R
 | 0,_,_=>none
 | m+1,xn,out =>
  bif (decide (127<xn)) then
  aK (kg (IntKind.u8.wrap ((aC ((xn.tmod 128)+128))))&&true) <|
  let row:=(out++([(UInt8.ofNat ((IntKind.u8.wrap ((aC ((xn.tmod 128)+128)))).toNat))]))
  aK (bg row) <|
  mP q0 m (aC (xn.tdiv 128)) row
  else
  q0 xn out
def sT (n:Nat) (xn:Int) (k0:ByteArray->Option R):Option R :=
 mP (fun Yl out =>
  aK (kg (IntKind.u8.wrap (Yl))&&true) <|
  let row:=(out++([(UInt8.ofNat ((IntKind.u8.wrap (Yl)).toNat))]))
  aK (bg row) <|
  k0 (yT row)) n xn ([])
def gP (n:Nat) (dE:List Slot) (q0:ByteArray->Option R):Nat->ByteArray->Int->Option R
 | 0,_,_=>none
 | m+1,s,i =>
  bif (decide (i<4)) then
  aK (bc i dE.length) <|
  aK (kg (IntKind.u8.wrap ((dE.getD i.toNat au).Ino))&&true) <|
  aK (lV s (yT ([(UInt8.ofNat ((IntKind.u8.wrap ((dE.getD i.toNat au).Ino)).toNat))]))) <|
  aK (bc i dE.length) <|
  sT n (((dE.getD i.toNat au).Name).size:Int) fun r =>
  aK (lV (s++(yT ([(UInt8.ofNat ((IntKind.u8.wrap ((dE.getD i.toNat au).Ino)).toNat))]))) r) <|
  aK (bc i dE.length) <|
  aK (lV ((s++(yT ([(UInt8.ofNat ((IntKind.u8.wrap ((dE.getD i.toNat au).Ino)).toNat))])))++r) ((dE.getD i.toNat au).Name)) <|
  gP n dE q0 m (((s++(yT ([(UInt8.ofNat ((IntKind.u8.wrap ((dE.getD i.toNat au).Ino)).toNat))])))++r)++((dE.getD i.toNat au).Name)) (aC (i+1))
  else
  q0 s
def g6 (n:Nat) (b:Block) (k0:ByteArray->Bool->Option R):Option R :=
 p9 n b fun r =>
 bif !r then
  k0 eS false
 else
 bif !b.cp then
  aK (lV (S [116]) b.Text) <|
  k0 ((S [116])++b.Text) true
 else
 gP n b.an (fun s =>
  k0 s true) n (S [100]) 0
def qk (n:Nat) (d:aa) (u:Int) (k0:ByteArray->Option R):Option R :=
 bif (u==0) then
  qD n d.aq fun r c8 =>
  k0 r
 else
 bif (decide (u<=4)) then
  aK (bc (aC ((aC (2*u))-2)) d.ad.length) <|
  let el:=(d.ad.getD ((aC ((aC (2*u))-2)).toNat) ay)
  mO n el fun dC j0 =>
  aK (bc (aC ((aC (2*u))-1)) d.ad.length) <|
  let kM:=(d.ad.getD ((aC ((aC (2*u))-1)).toNat) ay)
  mO n kM fun m8 rQ =>
  aK (lV dC m8) <|
  k0 (dC++m8)
 else
 aK (bc (aC (u-5)) d.ab.length) <|
 let acp:=(d.ab.getD ((aC (u-5)).toNat) aA)
 g6 n acp fun D1 uw =>
 k0 D1
def iS (n:Nat) (v:List Bool) (eR:List Bool) (dE:List aX) (fV:List Block) (q0:(List ByteArray)->Option R):Nat->Int->(List ByteArray)->Option R
 | 0,_,_=>none
 | m+1,u,lK =>
  bif (decide (u<21)) then
  qk n ⟨⟨v,eR⟩,dE,fV⟩ u fun r =>
  let row:=(lK++([r]))
  aK (bg row) <|
  iS n v eR dE fV q0 m (aC (u+1)) row
  else
  q0 lK
def kE (n:Nat) (d:aa) (k0:Device->Bool->Option R):Option R :=
 qc n d fun r =>
 bif !r then
  k0 ⟨[]⟩ false
 else
 iS n d.aq.ab d.aq.bD d.ad d.ab (fun v =>
  k0 ⟨v⟩ true) n 0 ([])
def tH (b:aq) (k0:aq->Option R):Option R :=
 let row:=(([])++b.ab)
 aK (bg row) <|
 let b8:=(([])++b.bD)
 aK (bg b8) <|
 k0 ⟨row,b8⟩
def nH (x:aX) (k0:aX->Option R):Option R :=
 let row:=(([])++x.ax)
 aK (bg row) <|
 k0 ⟨x.Kind,x.Links,row⟩
def lS (b:Block) (k0:Block->Option R):Option R :=
 let row:=(([])++b.an)
 aK (bg row) <|
 k0 ⟨b.cp,row,b.Text⟩
def jF (dE:List aX) (q0:(List aX)->Option R):Nat->Int->(List aX)->Option R
 | 0,_,_=>none
 | m+1,i,dD =>
  bif (decide (i<(dE.length:Int))) then
  aK (bc i dE.length) <|
  let el:=(dE.getD i.toNat ay)
  nH el fun mU =>
  let row:=(dD++([mU]))
  aK (bg row) <|
  jF dE q0 m (aC (i+1)) row
  else
  q0 dD
def gj (fV:List Block) (q0:(List Block)->Option R):Nat->Int->(List Block)->Option R
 | 0,_,_=>none
 | m+1,i,oW =>
  bif (decide (i<(fV.length:Int))) then
  aK (bc i fV.length) <|
  let el:=(fV.getD i.toNat aA)
  lS el fun b =>
  let row:=(oW++([b]))
  aK (bg row) <|
  gj fV q0 m (aC (i+1)) row
  else
  q0 oW
def jS (n:Nat) (d:aa) (k0:aa->Option R):Option R :=
 tH d.aq fun b =>
 jF d.ad (fun v =>
  gj d.ab (fun eR =>
  k0 ⟨b,v,eR⟩) n 0 ([])) n 0 ([])
def wR (n:Nat) (d:aa) (k0:Mem->Option R):Option R :=
 jS n d fun z0 =>
 k0 ⟨z0,(List.replicate 21 false),[],1⟩
def zp (n:Nat) (k0:Fs->Option R):Option R :=
 nN n fun d =>
 kE n d fun z0 r =>
 nN n fun Yi =>
 wR n Yi fun xm =>
 k0 ⟨xm,z0⟩
def iN (c:dP) (k0:Int->dP->Option R):Option R :=
 bif (decide (c.i<(c.b.length:Int))) then
  aK (bc c.i c.b.length) <|
  k0 (BC .i64 (aC ((BC .i64 (Uw .i64 (L9 .i64 (aC ((aC (c.h*6364136223846793005))+1442695040888963407)) 33) (L9 .i64 (aC ((aC (c.h*6364136223846793005))+1442695040888963407)) 45)) 255)+(aC (((c.b.getD c.i.toNat 0).toNat:Int))))) 255) ⟨c.b,(aC (c.i+1)),(aC ((aC (c.h*6364136223846793005))+1442695040888963407))⟩
 else
 k0 (BC .i64 (Uw .i64 (L9 .i64 (aC ((aC (c.h*6364136223846793005))+1442695040888963407)) 33) (L9 .i64 (aC ((aC (c.h*6364136223846793005))+1442695040888963407)) 45)) 255) ⟨c.b,c.i,(aC ((aC (c.h*6364136223846793005))+1442695040888963407))⟩
def aF (xn:Int) (c:dP) (k0:Int->dP->Option R):Option R :=
 bif (decide (xn<=0)) then
  k0 0 c
 else
 bif (decide (xn<=256)) then
  iN c fun r lo =>
  aK (!(xn==0)) <|
  k0 (r.tmod xn) ⟨c.b,lo.i,lo.h⟩
 else
 iN c fun c8 bK =>
 iN ⟨c.b,bK.i,bK.h⟩ fun dC bJ =>
 iN ⟨c.b,bJ.i,bJ.h⟩ fun j0 jZ =>
 iN ⟨c.b,jZ.i,jZ.h⟩ fun m8 oX =>
 aK (!(xn==0)) <|
 k0 ((aC ((aC ((aC ((aC (c8*16777216))+(aC (dC*65536))))+(aC (j0*256))))+m8)).tmod xn) ⟨c.b,oX.i,oX.h⟩
def cM (list:List Int) (c:dP) (k0:Int->dP->Option R):Option R :=
 aF (list.length:Int) c fun r lo =>
 aK (bc r list.length) <|
 k0 (list.getD r.toNat 0) ⟨c.b,lo.i,lo.h⟩
def fK (list:List ByteArray) (c:dP) (k0:ByteArray->dP->Option R):Option R :=
 aF (list.length:Int) c fun r lo =>
 aK (bc r list.length) <|
 k0 (list.getD r.toNat eS) ⟨c.b,lo.i,lo.h⟩
def pW (c:dP) (k0:ByteArray->dP->Option R):Option R :=
 let lit:=([S [97],S [98],S [99],S [100,100],S [101,49]]:List ByteArray)
 fK lit c fun r lo =>
 k0 r ⟨c.b,lo.i,lo.h⟩
def cd (xn:Int) (c:dP) (k0:Bool->dP->Option R):Option R :=
 aF xn c fun r lo =>
 k0 (r==0) ⟨c.b,lo.i,lo.h⟩
def fo (vM:List Node) (q0:(List ByteArray)->(List ByteArray)->(List ByteArray)->Option R):Nat->Int->(List ByteArray)->(List ByteArray)->(List ByteArray)->Option R
 | 0,_,_,_,_=>none
 | m+1,i,files,dirs,all =>
  bif (decide (i<(vM.length:Int))) then
  aK (bc i vM.length) <|
  let row:=(all++([(vM.getD i.toNat eu).Path]))
  aK (bg row) <|
  aK (bc i vM.length) <|
  bif (vM.getD i.toNat eu).cp then
   aK (bc i vM.length) <|
   let b8:=(dirs++([(vM.getD i.toNat eu).Path]))
   aK (bg b8) <|
   fo vM q0 m (aC (i+1)) files b8 row
  else
  aK (bc i vM.length) <|
  let fj:=(files++([(vM.getD i.toNat eu).Path]))
  aK (bg fj) <|
  fo vM q0 m (aC (i+1)) fj dirs row
  else
  q0 files dirs all
def cX (r7:List Bool) (q0:(List Int)->Option R):Nat->Int->(List Int)->Option R
 | 0,_,_=>none
 | m+1,u,bG =>
  bif (decide (u<(r7.length:Int))) then
  aK (bc u r7.length) <|
  bif (r7.getD u.toNat false) then
   let row:=(bG++([u]))
   aK (bg row) <|
   cX r7 q0 m (aC (u+1)) row
  else
  cX r7 q0 m (aC (u+1)) bG
  else
  q0 bG
def ei (n:Nat) (w:World) (c:dP) (k0:Event->dP->Option R):Option R :=
 let lit:=([1,1,1,2,2,3,3,3,4,4,5,5,6,6,6,6,6,6,6,7]:List Int)
 cM lit c fun r lo =>
 fo w.Model (fun files dirs all =>
  aF (dirs.length:Int) ⟨c.b,lo.i,lo.h⟩ fun c8 bK =>
  aK (bc c8 dirs.length) <|
  aK (lV (dirs.getD c8.toNat eS) (S [47])) <|
  pW ⟨c.b,bK.i,bK.h⟩ fun dC bJ =>
  aK (lV ((dirs.getD c8.toNat eS)++(S [47])) dC) <|
  bif (r==1) then
  bif (r==1) then
   k0 ⟨r,(((dirs.getD c8.toNat eS)++(S [47]))++dC),eS,0,eS⟩ ⟨c.b,bJ.i,bJ.h⟩
  else
  bif (r==3) then
   bif (r==3) then
   bif (decide (0<(files.length:Int))) then
    aF (files.length:Int) ⟨c.b,bJ.i,bJ.h⟩ fun j0 jZ =>
    aK (bc j0 files.length) <|
    bif (r==5) then
    k0 ⟨r,(files.getD j0.toNat eS),(((dirs.getD c8.toNat eS)++(S [47]))++dC),0,eS⟩ ⟨c.b,jZ.i,jZ.h⟩
    else
    let xg:=([eS,S [120],S [104,101,108,108,111],S [48,49,50,51,52,53,54,55,56,57,97,98,99,100,101,102]]:List ByteArray)
    fK xg ⟨c.b,jZ.i,jZ.h⟩ fun m8 oX =>
    aF 2 ⟨c.b,oX.i,oX.h⟩ fun rQ HA =>
    k0 ⟨r,(files.getD j0.toNat eS),eS,rQ,m8⟩ ⟨c.b,HA.i,HA.h⟩
   else
   bif (r==5) then
    k0 ⟨r,S [47,97],(((dirs.getD c8.toNat eS)++(S [47]))++dC),0,eS⟩ ⟨c.b,bJ.i,bJ.h⟩
   else
   let PM:=([eS,S [120],S [104,101,108,108,111],S [48,49,50,51,52,53,54,55,56,57,97,98,99,100,101,102]]:List ByteArray)
   fK PM ⟨c.b,bJ.i,bJ.h⟩ fun D1 Hy =>
   aF 2 ⟨c.b,Hy.i,Hy.h⟩ fun uw Yy =>
   k0 ⟨r,S [47,97],eS,uw,D1⟩ ⟨c.b,Yy.i,Yy.h⟩
   else
   bif (r==4) then
   bif (decide (0<(all.length:Int))) then
    aF (all.length:Int) ⟨c.b,bJ.i,bJ.h⟩ fun FE X4 =>
    aK (bc FE all.length) <|
    k0 ⟨r,(all.getD FE.toNat eS),eS,0,eS⟩ ⟨c.b,X4.i,X4.h⟩
   else
   k0 ⟨r,S [47,98],eS,0,eS⟩ ⟨c.b,bJ.i,bJ.h⟩
   else
   bif (r==6) then
   aF 21 ⟨c.b,bJ.i,bJ.h⟩ fun Ng SV =>
   cX w.Fs.Mem.ak (fun bG =>
    cd 6 ⟨c.b,SV.i,SV.h⟩ fun m9 Tp =>
    let z:=bif (decide (0<(bG.length:Int))) then m9 else false
    let vL:=bif (decide (0<(bG.length:Int))) then Tp.i else SV.i
    let yZ:=bif (decide (0<(bG.length:Int))) then Tp.h else SV.h
    bif (decide (0<(bG.length:Int)))&&(!z) then
    aF (bG.length:Int) ⟨c.b,vL,yZ⟩ fun CS Tr =>
    aK (bc CS bG.length) <|
    k0 ⟨r,eS,eS,(bG.getD CS.toNat 0),eS⟩ ⟨c.b,Tr.i,Tr.h⟩
    else
    k0 ⟨r,eS,eS,Ng,eS⟩ ⟨c.b,vL,yZ⟩) n 0 ([])
   else
   k0 ⟨r,eS,eS,0,eS⟩ ⟨c.b,bJ.i,bJ.h⟩
  else
  bif (r==5) then
   bif (decide (0<(files.length:Int))) then
   aF (files.length:Int) ⟨c.b,bJ.i,bJ.h⟩ fun M1 KL =>
   aK (bc M1 files.length) <|
   bif (r==5) then
    k0 ⟨r,(files.getD M1.toNat eS),(((dirs.getD c8.toNat eS)++(S [47]))++dC),0,eS⟩ ⟨c.b,KL.i,KL.h⟩
   else
   let lit_3:=([eS,S [120],S [104,101,108,108,111],S [48,49,50,51,52,53,54,55,56,57,97,98,99,100,101,102]]:List ByteArray)
   fK lit_3 ⟨c.b,KL.i,KL.h⟩ fun Jx Tx =>
   aF 2 ⟨c.b,Tx.i,Tx.h⟩ fun MQ Tz =>
   k0 ⟨r,(files.getD M1.toNat eS),eS,MQ,Jx⟩ ⟨c.b,Tz.i,Tz.h⟩
   else
   bif (r==5) then
   k0 ⟨r,S [47,97],(((dirs.getD c8.toNat eS)++(S [47]))++dC),0,eS⟩ ⟨c.b,bJ.i,bJ.h⟩
   else
   let Yr:=([eS,S [120],S [104,101,108,108,111],S [48,49,50,51,52,53,54,55,56,57,97,98,99,100,101,102]]:List ByteArray)
   fK Yr ⟨c.b,bJ.i,bJ.h⟩ fun SJ T9 =>
   aF 2 ⟨c.b,T9.i,T9.h⟩ fun SR Ua =>
   k0 ⟨r,S [47,97],eS,SR,SJ⟩ ⟨c.b,Ua.i,Ua.h⟩
  else
  bif (r==4) then
   bif (decide (0<(all.length:Int))) then
   aF (all.length:Int) ⟨c.b,bJ.i,bJ.h⟩ fun JE TZ =>
   aK (bc JE all.length) <|
   k0 ⟨r,(all.getD JE.toNat eS),eS,0,eS⟩ ⟨c.b,TZ.i,TZ.h⟩
   else
   k0 ⟨r,S [47,98],eS,0,eS⟩ ⟨c.b,bJ.i,bJ.h⟩
  else
  bif (r==6) then
   aF 21 ⟨c.b,bJ.i,bJ.h⟩ fun XQ K0 =>
   cX w.Fs.Mem.ak (fun ru =>
   cd 6 ⟨c.b,K0.i,K0.h⟩ fun SE Tu =>
   let PJ:=bif (decide (0<(ru.length:Int))) then SE else false
   let Vi:=bif (decide (0<(ru.length:Int))) then Tu.i else K0.i
   let Wr:=bif (decide (0<(ru.length:Int))) then Tu.h else K0.h
   bif (decide (0<(ru.length:Int)))&&(!PJ) then
    aF (ru.length:Int) ⟨c.b,Vi,Wr⟩ fun P9 TW =>
    aK (bc P9 ru.length) <|
    k0 ⟨r,eS,eS,(ru.getD P9.toNat 0),eS⟩ ⟨c.b,TW.i,TW.h⟩
   else
   k0 ⟨r,eS,eS,XQ,eS⟩ ⟨c.b,Vi,Wr⟩) n 0 ([])
  else
  k0 ⟨r,eS,eS,0,eS⟩ ⟨c.b,bJ.i,bJ.h⟩
  else
  bif (r==2) then
  k0 ⟨r,(((dirs.getD c8.toNat eS)++(S [47]))++dC),eS,0,eS⟩ ⟨c.b,bJ.i,bJ.h⟩
  else
  bif (r==3) then
  bif (r==3) then
   bif (decide (0<(files.length:Int))) then
   aF (files.length:Int) ⟨c.b,bJ.i,bJ.h⟩ fun Vn KZ =>
   aK (bc Vn files.length) <|
   bif (r==5) then
    k0 ⟨r,(files.getD Vn.toNat eS),(((dirs.getD c8.toNat eS)++(S [47]))++dC),0,eS⟩ ⟨c.b,KZ.i,KZ.h⟩
   else
   let YG:=([eS,S [120],S [104,101,108,108,111],S [48,49,50,51,52,53,54,55,56,57,97,98,99,100,101,102]]:List ByteArray)
   fK YG ⟨c.b,KZ.i,KZ.h⟩ fun acO Tw =>
   aF 2 ⟨c.b,Tw.i,Tw.h⟩ fun ac3 TK =>
   k0 ⟨r,(files.getD Vn.toNat eS),eS,ac3,acO⟩ ⟨c.b,TK.i,TK.h⟩
   else
   bif (r==5) then
   k0 ⟨r,S [47,97],(((dirs.getD c8.toNat eS)++(S [47]))++dC),0,eS⟩ ⟨c.b,bJ.i,bJ.h⟩
   else
   let YC:=([eS,S [120],S [104,101,108,108,111],S [48,49,50,51,52,53,54,55,56,57,97,98,99,100,101,102]]:List ByteArray)
   fK YC ⟨c.b,bJ.i,bJ.h⟩ fun ab5 TS =>
   aF 2 ⟨c.b,TS.i,TS.h⟩ fun acv TT =>
   k0 ⟨r,S [47,97],eS,acv,ab5⟩ ⟨c.b,TT.i,TT.h⟩
  else
  bif (r==4) then
   bif (decide (0<(all.length:Int))) then
   aF (all.length:Int) ⟨c.b,bJ.i,bJ.h⟩ fun Yd TP =>
   aK (bc Yd all.length) <|
   k0 ⟨r,(all.getD Yd.toNat eS),eS,0,eS⟩ ⟨c.b,TP.i,TP.h⟩
   else
   k0 ⟨r,S [47,98],eS,0,eS⟩ ⟨c.b,bJ.i,bJ.h⟩
  else
  bif (r==6) then
   aF 21 ⟨c.b,bJ.i,bJ.h⟩ fun acW KO =>
   cX w.Fs.Mem.ak (fun rq =>
   cd 6 ⟨c.b,KO.i,KO.h⟩ fun acI TM =>
   let YD:=bif (decide (0<(rq.length:Int))) then acI else false
   let Wu:=bif (decide (0<(rq.length:Int))) then TM.i else KO.i
   let Wk:=bif (decide (0<(rq.length:Int))) then TM.h else KO.h
   bif (decide (0<(rq.length:Int)))&&(!YD) then
    aF (rq.length:Int) ⟨c.b,Wu,Wk⟩ fun Yc TV =>
    aK (bc Yc rq.length) <|
    k0 ⟨r,eS,eS,(rq.getD Yc.toNat 0),eS⟩ ⟨c.b,TV.i,TV.h⟩
   else
   k0 ⟨r,eS,eS,acW,eS⟩ ⟨c.b,Wu,Wk⟩) n 0 ([])
  else
  k0 ⟨r,eS,eS,0,eS⟩ ⟨c.b,bJ.i,bJ.h⟩
  else
  bif (r==5) then
  bif (decide (0<(files.length:Int))) then
   aF (files.length:Int) ⟨c.b,bJ.i,bJ.h⟩ fun VI K2 =>
   aK (bc VI files.length) <|
   bif (r==5) then
   k0 ⟨r,(files.getD VI.toNat eS),(((dirs.getD c8.toNat eS)++(S [47]))++dC),0,eS⟩ ⟨c.b,K2.i,K2.h⟩
   else
   let XW:=([eS,S [120],S [104,101,108,108,111],S [48,49,50,51,52,53,54,55,56,57,97,98,99,100,101,102]]:List ByteArray)
   fK XW ⟨c.b,K2.i,K2.h⟩ fun ac5 TL =>
   aF 2 ⟨c.b,TL.i,TL.h⟩ fun ack T3 =>
   k0 ⟨r,(files.getD VI.toNat eS),eS,ack,ac5⟩ ⟨c.b,T3.i,T3.h⟩
  else
  bif (r==5) then
   k0 ⟨r,S [47,97],(((dirs.getD c8.toNat eS)++(S [47]))++dC),0,eS⟩ ⟨c.b,bJ.i,bJ.h⟩
  else
  let YR:=([eS,S [120],S [104,101,108,108,111],S [48,49,50,51,52,53,54,55,56,57,97,98,99,100,101,102]]:List ByteArray)
  fK YR ⟨c.b,bJ.i,bJ.h⟩ fun ac0 TY =>
  aF 2 ⟨c.b,TY.i,TY.h⟩ fun adk Tt =>
  k0 ⟨r,S [47,97],eS,adk,ac0⟩ ⟨c.b,Tt.i,Tt.h⟩
  else
  bif (r==4) then
  bif (decide (0<(all.length:Int))) then
   aF (all.length:Int) ⟨c.b,bJ.i,bJ.h⟩ fun XM T5 =>
   aK (bc XM all.length) <|
   k0 ⟨r,(all.getD XM.toNat eS),eS,0,eS⟩ ⟨c.b,T5.i,T5.h⟩
  else
  k0 ⟨r,S [47,98],eS,0,eS⟩ ⟨c.b,bJ.i,bJ.h⟩
  else
  bif (r==6) then
  aF 21 ⟨c.b,bJ.i,bJ.h⟩ fun abP KK =>
  cX w.Fs.Mem.ak (fun rD =>
   cd 6 ⟨c.b,KK.i,KK.h⟩ fun acN T4 =>
   let z_9:=bif (decide (0<(rD.length:Int))) then acN else false
   let Yz:=bif (decide (0<(rD.length:Int))) then T4.i else KK.i
   let X5:=bif (decide (0<(rD.length:Int))) then T4.h else KK.h
   bif (decide (0<(rD.length:Int)))&&(!z_9) then
   aF (rD.length:Int) ⟨c.b,Yz,X5⟩ fun YT Th =>
   aK (bc YT rD.length) <|
   k0 ⟨r,eS,eS,(rD.getD YT.toNat 0),eS⟩ ⟨c.b,Th.i,Th.h⟩
   else
   k0 ⟨r,eS,eS,abP,eS⟩ ⟨c.b,Yz,X5⟩) n 0 ([])
  else
  k0 ⟨r,eS,eS,0,eS⟩ ⟨c.b,bJ.i,bJ.h⟩) n 0 ([]) ([eS]) ([])
def jH (yW:List bE) (q0:(List bE)->Option R):Nat->Int->(List bE)->Option R
 | 0,_,_=>none
 | m+1,i,Jn =>
  bif (decide (i<(yW.length:Int))) then
  aK (bc i yW.length) <|
  let el:=(yW.getD i.toNat aH)
  let row:=(([])++((yW.getD i.toNat aH).ab))
  aK (bg row) <|
  let b8:=(Jn++([⟨el.Id,el.Kind,el.Ino,el.Ptr,el.Block,el.Slot,el.Name,el.aq,el.et,el.bz,row⟩]))
  aK (bg b8) <|
  jH yW q0 m (aC (i+1)) b8
  else
  q0 Jn
def dv (n:Nat) (xm:Mem) (k0:Mem->Option R):Option R :=
 jS n xm.aa fun d =>
 let row:=(([])++xm.ak)
 aK (bg row) <|
 jH xm.ae (fun v =>
  k0 ⟨d,row,v,xm.Next⟩) n 0 ([])
def fP (n:Nat) (p:ByteArray) (q0:Bool->(List ByteArray)->Option R) (q1:(List ByteArray)->Option R):Nat->Int->Int->(List ByteArray)->Option R
 | 0,_,_,_=>none
 | m+1,begin,i,out =>
  bif (decide (i<=(p.size:Int))) then
  aK (!(decide (i<(p.size:Int)))||(bc i p.size)) <|
  bif (decide (i<(p.size:Int)))&&(!((bt p i.toNat:Int)==47)) then
   fP n p q0 q1 m begin (aC (i+1)) out
  else
  aK (j7 begin i p.size) <|
  kt n (p.extract begin.toNat i.toNat) fun r =>
  bif !r then
   q0 false ([])
  else
  aK (j7 begin i p.size) <|
  let row:=(out++([(p.extract begin.toNat i.toNat)]))
  aK (bg row) <|
  fP n p q0 q1 m (aC (i+1)) (aC (i+1)) row
  else
  q1 out
def jr (n:Nat) (p:ByteArray) (k0:(List ByteArray)->Bool->Option R):Option R :=
 aK (!(!((p.size:Int)==0))||(bc 0 p.size)) <|
 bif ((p.size:Int)==0)||(!((bt p 0:Int)==47)) then
  k0 ([]) false
 else
 bif (p==(S [47])) then
  k0 ([]) true
 else
 fP n p (fun x kD =>
  k0 kD x) (fun out =>
  bif (decide (4<(out.length:Int))) then
  k0 ([]) false
  else
  k0 out true) n 1 1 ([])
def iR (list:List ByteArray) (q0:ByteArray->Option R):Nat->ByteArray->Int->Option R
 | 0,_,_=>none
 | m+1,s,i =>
  bif (decide ((aC (i+1))<(list.length:Int))) then
  aK (lV s (S [47])) <|
  aK (bc i list.length) <|
  aK (lV (s++(S [47])) (list.getD i.toNat eS)) <|
  iR list q0 m ((s++(S [47]))++(list.getD i.toNat eS)) (aC (i+1))
  else
  q0 s
def kI (n:Nat) (p:ByteArray) (k0:ByteArray->ByteArray->Bool->Option R):Option R :=
 jr n p fun r c8 =>
 bif (!c8)||((r.length:Int)==0) then
  k0 eS eS false
 else
 iR r (fun s =>
  bif (s==eS) then
  aK (bc (aC ((r.length:Int)-1)) r.length) <|
  k0 (S [47]) (r.getD ((aC ((r.length:Int)-1)).toNat) eS) true
  else
  aK (bc (aC ((r.length:Int)-1)) r.length) <|
  k0 s (r.getD ((aC ((r.length:Int)-1)).toNat) eS) true) n eS 0
def kP (HF:List Int) (q0:Bool->Option R) (q1:Option R):Nat->Int->Option R
 | 0,_=>none
 | m+1,xk =>
  bif (decide (xk<(HF.length:Int))) then
  aK (bc xk HF.length) <|
  cj (HF.getD xk.toNat 0) 1 16 fun r =>
  bif !r then
   q0 false
  else
  kP HF q0 q1 m (aC (xk+1))
  else
  q1
def fx (i:Int) (eR:Int) (Jl:List bE) (q0:Bool->Option R) (q1:Option R):Nat->Int->Option R
 | 0,_=>none
 | m+1,xk =>
  bif (decide (xk<i)) then
  aK (bc xk Jl.length) <|
  bif (((Jl.getD xk.toNat aH).Id)==eR) then
   q0 false
  else
  fx i eR Jl q0 q1 m (aC (xk+1))
  else
  q1
def wD (n:Nat) (xm:Mem) (i:Int) (k0:Bool->Option R):Option R :=
 aK (bc i xm.ae.length) <|
 let el:=(xm.ae.getD i.toNat aH)
 cj el.Id 1 (aC (xm.Next-1)) fun r =>
 cj el.Kind 1 6 fun c8 =>
 let z:=bif !(!r) then c8 else false
 cj el.Ino 1 8 fun dC =>
 let vL:=bif !((!r)||(!z)) then dC else false
 cj el.Ptr 0 1 fun j0 =>
 let yZ:=bif !(((!r)||(!z))||(!vL)) then j0 else false
 cj el.Block 0 16 fun m8 =>
 let PJ:=bif !((((!r)||(!z))||(!vL))||(!yZ)) then m8 else false
 cj el.Slot 0 3 fun rQ =>
 let Vi:=bif !(((((!r)||(!z))||(!vL))||(!yZ))||(!PJ)) then rQ else false
 cj el.bz 0 (aC (xm.Next-1)) fun D1 =>
 let Wr:=bif !((((((!r)||(!z))||(!vL))||(!yZ))||(!PJ))||(!Vi)) then D1 else false
 bif ((((((!r)||(!z))||(!vL))||(!yZ))||(!PJ))||(!Vi))||(!Wr) then
  k0 false
 else
 let v:=(xm.ae.getD i.toNat aH).ab
 kP v (fun x =>
  k0 x) (
  fx i el.Id xm.ae (fun kD =>
  k0 kD) (
  bif (el.Kind==1) then
   bif (el.Kind==1) then
   aK (!(decide (0<el.Block))||(bc (aC (el.Ino-1)) xm.aa.ad.length)) <|
   aK (!(decide (0<el.Block))||(bc el.Ptr (((xm.aa.ad.getD ((aC (el.Ino-1)).toNat) ay).ax).length))) <|
   k0 ((decide (0<el.Block))&&((((xm.aa.ad.getD ((aC (el.Ino-1)).toNat) ay).ax).getD el.Ptr.toNat 0)==el.Block))
   else
   bif (el.Kind==2) then
   bif (el.Kind==2) then
    aK (!(decide (0<el.Block))||(bc (aC (el.Block-1)) xm.aa.ab.length)) <|
    aK (!((decide (0<el.Block))&&((xm.aa.ab.getD ((aC (el.Block-1)).toNat) aA).cp))||(bc (aC (el.Block-1)) xm.aa.ab.length)) <|
    aK (!((decide (0<el.Block))&&((xm.aa.ab.getD ((aC (el.Block-1)).toNat) aA).cp))||(bc el.Slot (((xm.aa.ab.getD ((aC (el.Block-1)).toNat) aA).an).length))) <|
    k0 (((decide (0<el.Block))&&((xm.aa.ab.getD ((aC (el.Block-1)).toNat) aA).cp))&&(((((xm.aa.ab.getD ((aC (el.Block-1)).toNat) aA).an).getD el.Slot.toNat au).Ino)==el.Ino))
   else
   bif (el.Kind==4) then
    aK (!(decide (0<el.Block))||(bc (aC (el.Block-1)) xm.aa.ab.length)) <|
    kt n el.Name fun uw =>
    let YD:=bif (decide (0<el.Block))&&((xm.aa.ab.getD ((aC (el.Block-1)).toNat) aA).cp) then uw else false
    k0 (((decide (0<el.Block))&&((xm.aa.ab.getD ((aC (el.Block-1)).toNat) aA).cp))&&YD)
   else
   k0 true
   else
   bif (el.Kind==3) then
   aK (!(decide (0<el.Block))||(bc (aC (el.Block-1)) xm.aa.ab.length)) <|
   aK (!((decide (0<el.Block))&&((xm.aa.ab.getD ((aC (el.Block-1)).toNat) aA).cp))||(bc (aC (el.Block-1)) xm.aa.ab.length)) <|
   aK (!((decide (0<el.Block))&&((xm.aa.ab.getD ((aC (el.Block-1)).toNat) aA).cp))||(bc el.Slot (((xm.aa.ab.getD ((aC (el.Block-1)).toNat) aA).an).length))) <|
   k0 (((decide (0<el.Block))&&((xm.aa.ab.getD ((aC (el.Block-1)).toNat) aA).cp))&&(((((xm.aa.ab.getD ((aC (el.Block-1)).toNat) aA).an).getD el.Slot.toNat au).Ino)==el.Ino))
   else
   bif (el.Kind==4) then
   aK (!(decide (0<el.Block))||(bc (aC (el.Block-1)) xm.aa.ab.length)) <|
   kt n el.Name fun FE =>
   let Wu:=bif (decide (0<el.Block))&&((xm.aa.ab.getD ((aC (el.Block-1)).toNat) aA).cp) then FE else false
   k0 (((decide (0<el.Block))&&((xm.aa.ab.getD ((aC (el.Block-1)).toNat) aA).cp))&&Wu)
   else
   k0 true
  else
  bif (el.Kind==6) then
   aK (!(decide (0<el.Block))||(bc (aC (el.Ino-1)) xm.aa.ad.length)) <|
   aK (!(decide (0<el.Block))||(bc el.Ptr (((xm.aa.ad.getD ((aC (el.Ino-1)).toNat) ay).ax).length))) <|
   k0 ((decide (0<el.Block))&&((((xm.aa.ad.getD ((aC (el.Ino-1)).toNat) ay).ax).getD el.Ptr.toNat 0)==el.Block))
  else
  bif (el.Kind==2) then
   bif (el.Kind==2) then
   aK (!(decide (0<el.Block))||(bc (aC (el.Block-1)) xm.aa.ab.length)) <|
   aK (!((decide (0<el.Block))&&((xm.aa.ab.getD ((aC (el.Block-1)).toNat) aA).cp))||(bc (aC (el.Block-1)) xm.aa.ab.length)) <|
   aK (!((decide (0<el.Block))&&((xm.aa.ab.getD ((aC (el.Block-1)).toNat) aA).cp))||(bc el.Slot (((xm.aa.ab.getD ((aC (el.Block-1)).toNat) aA).an).length))) <|
   k0 (((decide (0<el.Block))&&((xm.aa.ab.getD ((aC (el.Block-1)).toNat) aA).cp))&&(((((xm.aa.ab.getD ((aC (el.Block-1)).toNat) aA).an).getD el.Slot.toNat au).Ino)==el.Ino))
   else
   bif (el.Kind==4) then
   aK (!(decide (0<el.Block))||(bc (aC (el.Block-1)) xm.aa.ab.length)) <|
   kt n el.Name fun Ng =>
   let Wk:=bif (decide (0<el.Block))&&((xm.aa.ab.getD ((aC (el.Block-1)).toNat) aA).cp) then Ng else false
   k0 (((decide (0<el.Block))&&((xm.aa.ab.getD ((aC (el.Block-1)).toNat) aA).cp))&&Wk)
   else
   k0 true
  else
  bif (el.Kind==3) then
   aK (!(decide (0<el.Block))||(bc (aC (el.Block-1)) xm.aa.ab.length)) <|
   aK (!((decide (0<el.Block))&&((xm.aa.ab.getD ((aC (el.Block-1)).toNat) aA).cp))||(bc (aC (el.Block-1)) xm.aa.ab.length)) <|
   aK (!((decide (0<el.Block))&&((xm.aa.ab.getD ((aC (el.Block-1)).toNat) aA).cp))||(bc el.Slot (((xm.aa.ab.getD ((aC (el.Block-1)).toNat) aA).an).length))) <|
   k0 (((decide (0<el.Block))&&((xm.aa.ab.getD ((aC (el.Block-1)).toNat) aA).cp))&&(((((xm.aa.ab.getD ((aC (el.Block-1)).toNat) aA).an).getD el.Slot.toNat au).Ino)==el.Ino))
  else
  bif (el.Kind==4) then
   aK (!(decide (0<el.Block))||(bc (aC (el.Block-1)) xm.aa.ab.length)) <|
   kt n el.Name fun m9 =>
   let z_9:=bif (decide (0<el.Block))&&((xm.aa.ab.getD ((aC (el.Block-1)).toNat) aA).cp) then m9 else false
   k0 (((decide (0<el.Block))&&((xm.aa.ab.getD ((aC (el.Block-1)).toNat) aA).cp))&&z_9)
  else
  k0 true) n 0) n 0
def lW (n:Nat) (v:Int) (eR:List Bool) (dE:List Bool) (fV:List aX) (jc:List Block) (lK:List Bool) (gY:List bE) (q0:Bool->Option R) (q1:Option R):Nat->Int->Option R
 | 0,_=>none
 | m+1,i =>
  bif (decide (i<(gY.length:Int))) then
  wD n ⟨⟨⟨eR,dE⟩,fV,jc⟩,lK,gY,v⟩ i fun r =>
  bif !r then
   q0 false
  else
  lW n v eR dE fV jc lK gY q0 q1 m (aC (i+1))
  else
  q1
def mn (n:Nat) (xm:Mem) (k0:Bool->Option R):Option R :=
 qc n xm.aa fun r =>
 cj xm.Next 1 100000 fun c8 =>
 let z:=bif !(((!r)||(!((xm.ak.length:Int)==21)))||(decide (40<(xm.ae.length:Int)))) then c8 else false
 bif (((!r)||(!((xm.ak.length:Int)==21)))||(decide (40<(xm.ae.length:Int))))||(!z) then
  k0 false
 else
 lW n xm.Next xm.aa.aq.ab xm.aa.aq.bD xm.aa.ad xm.aa.ab xm.ak xm.ae (fun x =>
  k0 x) (
  k0 true) n 0
def oH (d:aa) (p:Int) (k0:Block->Bool->Option R):Option R :=
 cj p 1 (d.ab.length:Int) fun r =>
 bif !r then
  k0 ⟨false,[],eS⟩ false
 else
 aK (bc (aC (p-1)) d.ab.length) <|
 let el:=(d.ab.getD ((aC (p-1)).toNat) aA)
 k0 el true
def kU (name:ByteArray) (dE:List Slot) (q0:Int->Option R) (q1:Option R):Nat->Int->Option R
 | 0,_=>none
 | m+1,i =>
  bif (decide (i<(dE.length:Int))) then
  aK (!(!(name==eS))||(bc i dE.length)) <|
  bif (!(name==eS))&&(((dE.getD i.toNat au).Name)==name) then
   q0 i
  else
  kU name dE q0 q1 m (aC (i+1))
  else
  q1
def p7 (n:Nat) (b:Block) (name:ByteArray) (k0:Int->Option R):Option R :=
 kU name b.an (fun x =>
  k0 x) (
  k0 (-1)) n 0
def jT (n:Nat) (name:ByteArray) (dE:List Bool) (fV:List Bool) (jc:List aX) (lK:List Block) (gY:List Int) (q0:Int->Int->Int->Option R) (q1:Option R):Nat->Int->Option R
 | 0,_=>none
 | m+1,xk =>
  bif (decide (xk<(gY.length:Int))) then
  aK (bc xk gY.length) <|
  oH ⟨⟨dE,fV⟩,jc,lK⟩ (gY.getD xk.toNat 0) fun b r =>
  p7 n b name fun c8 =>
  bif (r&&b.cp)&&(decide (0<=c8)) then
   aK (bc xk gY.length) <|
   aK (bc c8 b.an.length) <|
   q0 (gY.getD xk.toNat 0) c8 ((b.an.getD c8.toNat au).Ino)
  else
  jT n name dE fV jc lK gY q0 q1 m (aC (xk+1))
  else
  q1
def lQ (n:Nat) (d:aa) (i:Int) (name:ByteArray) (k0:Int->Int->Int->Option R):Option R :=
 cj i 1 (d.ad.length:Int) fun r =>
 aK (!(!(!r))||(bc (aC (i-1)) d.ad.length)) <|
 bif (!r)||(!(((d.ad.getD ((aC (i-1)).toNat) ay).Kind)==2)) then
  k0 0 0 0
 else
 aK (bc (aC (i-1)) d.ad.length) <|
 let el:=(d.ad.getD ((aC (i-1)).toNat) ay)
 jT n name d.aq.ab d.aq.bD d.ad d.ab ((d.ad.getD ((aC (i-1)).toNat) ay).ax) (fun x kD Ci =>
  k0 x kD Ci) (
  k0 0 0 0) n 0
def iH (n:Nat) (list:List ByteArray) (v:List Bool) (eR:List Bool) (dE:List aX) (fV:List Block) (q0:Int->Option R) (q1:Int->Option R):Nat->Int->Int->Option R
 | 0,_,_=>none
 | m+1,i,xk =>
  bif (decide (xk<(list.length:Int))) then
  aK (bc xk list.length) <|
  lQ n ⟨⟨v,eR⟩,dE,fV⟩ i (list.getD xk.toNat eS) fun r c8 dC =>
  cj dC 1 (dE.length:Int) fun j0 =>
  bif !j0 then
   q0 0
  else
  iH n list v eR dE fV q0 q1 m dC (aC (xk+1))
  else
  q1 i
def gF (n:Nat) (d:aa) (p:ByteArray) (k0:Int->Option R):Option R :=
 jr n p fun r c8 =>
 bif !c8 then
  k0 0
 else
 iH n r d.aq.ab d.aq.bD d.ad d.ab (fun x =>
  k0 x) (fun i =>
  k0 i) n 1 0
def kS (x:Int) (list:List Int) (q0:Bool->Option R) (q1:Option R):Nat->Int->Option R
 | 0,_=>none
 | m+1,i =>
  bif (decide (i<(list.length:Int))) then
  aK (bc i list.length) <|
  bif ((list.getD i.toNat 0)==x) then
   q0 true
  else
  kS x list q0 q1 m (aC (i+1))
  else
  q1
def sO (n:Nat) (list:List Int) (x:Int) (k0:Bool->Option R):Option R :=
 kS x list (fun kD =>
  k0 kD) (
  k0 false) n 0
def iL (n:Nat) (dir:Int) (name:ByteArray) (fV:List aX) (gY:List bE) (q0:Bool->Option R) (q1:Option R):Nat->Int->Option R
 | 0,_=>none
 | m+1,xk =>
  bif (decide (xk<(gY.length:Int))) then
  aK (bc xk gY.length) <|
  let el:=(gY.getD xk.toNat aH)
  aK (!(((el.Kind==4)&&(decide (0<el.bz)))&&(el.Name==name))||(bc (aC (dir-1)) fV.length)) <|
  sO n ((fV.getD ((aC (dir-1)).toNat) ay).ax) el.Block fun r =>
  let z:=bif ((el.Kind==4)&&(decide (0<el.bz)))&&(el.Name==name) then r else false
  bif (((el.Kind==4)&&(decide (0<el.bz)))&&(el.Name==name))&&z then
   q0 true
  else
  iL n dir name fV gY q0 q1 m (aC (xk+1))
  else
  q1
def qn (n:Nat) (xm:Mem) (dir:Int) (name:ByteArray) (k0:Bool->Option R):Option R :=
 iL n dir name xm.aa.ad xm.ae (fun x =>
  k0 x) (
  k0 false) n 0
def gR (list:List Bool) (q0:Int->Option R) (q1:Option R):Nat->Int->Option R
 | 0,_=>none
 | m+1,i =>
  bif (decide (i<(list.length:Int))) then
  aK (bc i list.length) <|
  bif !(list.getD i.toNat false) then
   q0 (aC (i+1))
  else
  gR list q0 q1 m (aC (i+1))
  else
  q1
def pC (n:Nat) (list:List Bool) (k0:Int->Option R):Option R :=
 gR list (fun x =>
  k0 x) (
  k0 0) n 0
def bX (u:Int) (xm:Mem) (k0:Mem->Option R):Option R :=
 bif (decide (0<=u))&&(decide (u<(xm.ak.length:Int))) then
  aK (bc u xm.ak.length) <|
  let row:=(xm.ak.set u.toNat true)
  k0 ⟨xm.aa,row,xm.ae,xm.Next⟩
 else
 k0 xm
def ue (n:Nat) (xm:Mem) (k0:Mem->Int->Option R):Option R :=
 dv n xm fun aZ =>
 pC n xm.aa.aq.bD fun r =>
 bif (r==0) then
  k0 aZ 0
 else
 aK (bc (aC (r-1)) aZ.aa.aq.bD.length) <|
 let row:=(aZ.aa.aq.bD.set ((aC (r-1)).toNat) true)
 bX 0 ⟨⟨⟨aZ.aa.aq.ab,row⟩,aZ.aa.ad,aZ.aa.ab⟩,aZ.ak,aZ.ae,aZ.Next⟩ fun mo =>
 k0 ⟨⟨⟨aZ.aa.aq.ab,row⟩,aZ.aa.ad,aZ.aa.ab⟩,mo.ak,aZ.ae,mo.Next⟩ r
def jE (xm:Mem) (k0:Bool->Mem->Option R):Option R :=
 k0 ((decide ((xm.ae.length:Int)<=32))&&(decide (xm.Next<=99000))) xm
def dJ (i:Int) (k0:Int->Option R):Option R :=
 cj i 1 8 fun r =>
 bif !r then
  k0 (-1)
 else
 k0 (aC (1+(aC ((aC (i-1)).tdiv 2))))
def sf (d:aa) (p:Int) (k0:Block->Bool->Option R) (k1:Block->Nat->Bool->Option R):Option R :=
 cj p 1 (d.ab.length:Int) fun r =>
 bif !r then
  k0 ⟨false,[],eS⟩ false
 else
 aK (bc (aC (p-1)) d.ab.length) <|
 let el:=(d.ab.getD ((aC (p-1)).toNat) aA)
 k1 ⟨el.cp,[],el.Text⟩ ((aC (p-1)).toNat) true
def yh (d:bE) (k0:Bool->Option R):Option R :=
 k0 (((d.Kind==2)||(d.Kind==3))||(d.Kind==4))
def lP (block:Int) (slot:Int) (gY:List bE) (q0:Int->Option R) (q1:Option R):Nat->Int->Option R
 | 0,_=>none
 | m+1,i =>
  bif (decide (i<(gY.length:Int))) then
  aK (bc i gY.length) <|
  let el:=(gY.getD i.toNat aH)
  yh el fun r =>
  bif (r&&(el.Block==block))&&(el.Slot==slot) then
   q0 el.Id
  else
  lP block slot gY q0 q1 m (aC (i+1))
  else
  q1
def qm (n:Nat) (xm:Mem) (block:Int) (slot:Int) (k0:Int->Option R):Option R :=
 lP block slot xm.ae (fun x =>
  k0 x) (
  k0 0) n 0
def mC (n:Nat) (xm:Mem) (k0:Mem->Int->Option R):Option R :=
 dv n xm fun aZ =>
 pC n xm.aa.aq.ab fun r =>
 bif (r==0) then
  k0 aZ 0
 else
 aK (bc (aC (r-1)) aZ.aa.aq.ab.length) <|
 let row:=(aZ.aa.aq.ab.set ((aC (r-1)).toNat) true)
 bX 0 ⟨⟨⟨row,aZ.aa.aq.bD⟩,aZ.aa.ad,aZ.aa.ab⟩,aZ.ak,aZ.ae,aZ.Next⟩ fun mo =>
 k0 ⟨⟨⟨row,aZ.aa.aq.bD⟩,aZ.aa.ad,aZ.aa.ab⟩,mo.ak,aZ.ae,mo.Next⟩ r
def td (k0:Block->Option R):Option R :=
 k0 ⟨true,(List.replicate 4 au),eS⟩
def bV (p:Int) (k0:Int->Option R):Option R :=
 cj p 1 16 fun r =>
 bif !r then
  k0 (-1)
 else
 k0 (aC (p+4))
def iB (n:Nat) (xm:Mem) (d:bE) (k0:Mem->Int->Option R):Option R :=
 dv n xm fun aZ =>
 cj xm.Next 1 99999 fun r =>
 let z:=bif !(decide (40<=(xm.ae.length:Int))) then r else false
 bif (decide (40<=(xm.ae.length:Int)))||(!z) then
  k0 aZ 0
 else
 let row:=(([])++d.ab)
 aK (bg row) <|
 let b8:=(aZ.ae++([⟨xm.Next,d.Kind,d.Ino,d.Ptr,d.Block,d.Slot,d.Name,d.aq,d.et,d.bz,row⟩]))
 aK (bg b8) <|
 k0 ⟨aZ.aa,aZ.ak,b8,(aC (xm.Next+1))⟩ xm.Next
def mH (n:Nat) (xk:Int) (ok:Bool) (next:Int) (vE:Nat) (dE:Bool) (bb:List Bool) (bi:List Bool) (di:List aX) (db:List Block) (bG:List Bool) (deps:List bE) (jc:List Slot) (q0:Int->Int->Option R):Nat->Int->Int->Int->Option R
 | 0,_,_,_=>none
 | m+1,block,slot,s =>
  bif ((decide (0<=s))&&ok)&&dE then
  aK (bc s jc.length) <|
  aK (!(((jc.getD s.toNat au).Name)==eS)||(bc s jc.length)) <|
  aK (!((((jc.getD s.toNat au).Name)==eS)&&(((jc.getD s.toNat au).Ino)==0))||(bc xk (((di.getD vE ay).ax).length))) <|
  qm n ⟨⟨⟨bb,bi⟩,di,db⟩,bG,deps,next⟩ (((di.getD vE ay).ax).getD xk.toNat 0) s fun r =>
  let z:=bif (((jc.getD s.toNat au).Name)==eS)&&(((jc.getD s.toNat au).Ino)==0) then r else 0
  bif ((((jc.getD s.toNat au).Name)==eS)&&(((jc.getD s.toNat au).Ino)==0))&&(z==0) then
   aK (bc xk (((di.getD vE ay).ax).length)) <|
   mH n xk ok next vE dE bb bi di db bG deps jc q0 m (((di.getD vE ay).ax).getD xk.toNat 0) s (aC (s-1))
  else
  mH n xk ok next vE dE bb bi di db bG deps jc q0 m block slot (aC (s-1))
  else
  q0 block slot
def fI (n:Nat) (xk:Int) (ok:Bool) (next:Int) (vE:Nat) (dE:Bool) (Ce:Nat) (bb:List Bool) (bi:List Bool) (di:List aX) (db:List Block) (bG:List Bool) (deps:List bE) (q0:Int->Int->Option R):Nat->Int->Int->Int->Option R
 | 0,_,_,_=>none
 | m+1,block,slot,s =>
  bif ((decide (0<=s))&&ok)&&dE then
  aK (bc s (((db.getD Ce aA).an).length)) <|
  aK (!(((((db.getD Ce aA).an).getD s.toNat au).Name)==eS)||(bc s (((db.getD Ce aA).an).length))) <|
  aK (!((((((db.getD Ce aA).an).getD s.toNat au).Name)==eS)&&(((((db.getD Ce aA).an).getD s.toNat au).Ino)==0))||(bc xk (((di.getD vE ay).ax).length))) <|
  qm n ⟨⟨⟨bb,bi⟩,di,db⟩,bG,deps,next⟩ (((di.getD vE ay).ax).getD xk.toNat 0) s fun r =>
  let z:=bif (((((db.getD Ce aA).an).getD s.toNat au).Name)==eS)&&(((((db.getD Ce aA).an).getD s.toNat au).Ino)==0) then r else 0
  bif ((((((db.getD Ce aA).an).getD s.toNat au).Name)==eS)&&(((((db.getD Ce aA).an).getD s.toNat au).Ino)==0))&&(z==0) then
   aK (bc xk (((di.getD vE ay).ax).length)) <|
   fI n xk ok next vE dE Ce bb bi di db bG deps q0 m (((di.getD vE ay).ax).getD xk.toNat 0) s (aC (s-1))
  else
  fI n xk ok next vE dE Ce bb bi di db bG deps q0 m block slot (aC (s-1))
  else
  q0 block slot
def g9 (n:Nat) (next:Int) (vE:Nat) (bb:List Bool) (bi:List Bool) (di:List aX) (db:List Block) (bG:List Bool) (deps:List bE) (q0:Int->Int->Option R):Nat->Int->Int->Int->Option R
 | 0,_,_,_=>none
 | m+1,block,slot,xk =>
  bif (decide (0<=xk)) then
  aK (bc xk (((di.getD vE ay).ax).length)) <|
  sf ⟨⟨bb,bi⟩,di,db⟩ (((di.getD vE ay).ax).getD xk.toNat 0)
   (fun b r =>
   mH n xk r next vE b.cp bb bi di db bG deps b.an (fun SW VR =>
    g9 n next vE bb bi di db bG deps q0 m SW VR (aC (xk-1))) m block slot (aC ((b.an.length:Int)-1)))
   (fun xf e c8 =>
   fI n xk c8 next vE xf.cp e bb bi di db bG deps (fun Fu Ju =>
    g9 n next vE bb bi di db bG deps q0 m Fu Ju (aC (xk-1))) m block slot (aC ((((db.getD e aA).an).length:Int)-1)))
  else
  q0 block slot
def jz (vE:Nat) (di:List aX) (q0:Int->Option R):Nat->Int->Option R
 | 0,_=>none
 | m+1,xk =>
  aK (!(decide (xk<(((di.getD vE ay).ax).length:Int)))||(bc xk (((di.getD vE ay).ax).length))) <|
  bif (decide (xk<(((di.getD vE ay).ax).length:Int)))&&(!((((di.getD vE ay).ax).getD xk.toNat 0)==0)) then
  jz vE di q0 m (aC (xk+1))
  else
  q0 xk
def qf (n:Nat) (dir:Int) (name:ByteArray) (ino:Int) (xm:Mem) (k0:Int->Mem->Option R):Option R :=
 aK (bc (aC (dir-1)) xm.aa.ad.length) <|
 let el:=(xm.aa.ad.getD ((aC (dir-1)).toNat) ay)
 g9 n xm.Next ((aC (dir-1)).toNat) xm.aa.aq.ab xm.aa.aq.bD xm.aa.ad xm.aa.ab xm.ak xm.ae (fun block slot =>
  bif (block==0) then
  jz ((aC (dir-1)).toNat) xm.aa.ad (fun xk =>
   bif (xk==(((xm.aa.ad.getD ((aC (dir-1)).toNat) ay).ax).length:Int)) then
   k0 0 xm
   else
   mC n xm fun aZ r =>
   bif (r==0) then
   k0 0 xm
   else
   td fun b =>
   aK (bc (aC (r-1)) aZ.aa.ab.length) <|
   let row:=(aZ.aa.ab.set ((aC (r-1)).toNat) b)
   aK (bc (aC (dir-1)) aZ.aa.ad.length) <|
   aK (bc xk (((aZ.aa.ad.getD ((aC (dir-1)).toNat) ay).ax).length)) <|
   let b8:=(aZ.aa.ad.set ((aC (dir-1)).toNat) ⟨(aZ.aa.ad.getD ((aC (dir-1)).toNat) ay).Kind,(aZ.aa.ad.getD ((aC (dir-1)).toNat) ay).Links,(((aZ.aa.ad.getD ((aC (dir-1)).toNat) ay).ax).set xk.toNat r)⟩)
   bV r fun c8 =>
   bX c8 ⟨⟨aZ.aa.aq,b8,row⟩,aZ.ak,aZ.ae,aZ.Next⟩ fun mo =>
   dJ dir fun dC =>
   bX dC ⟨⟨aZ.aa.aq,b8,row⟩,mo.ak,aZ.ae,mo.Next⟩ fun ko =>
   iB n ⟨⟨aZ.aa.aq,b8,row⟩,ko.ak,aZ.ae,ko.Next⟩ ⟨0,1,dir,xk,r,0,eS,false,false,0,[]⟩ fun dA j0 =>
   aK (bc (aC (r-1)) dA.aa.ab.length) <|
   aK (bc slot (((dA.aa.ab.getD ((aC (r-1)).toNat) aA).an).length)) <|
   let fj:=(dA.aa.ab.set ((aC (r-1)).toNat) ⟨(dA.aa.ab.getD ((aC (r-1)).toNat) aA).cp,(((dA.aa.ab.getD ((aC (r-1)).toNat) aA).an).set slot.toNat ⟨name,ino⟩),(dA.aa.ab.getD ((aC (r-1)).toNat) aA).Text⟩)
   bV r fun m8 =>
   bX m8 ⟨⟨dA.aa.aq,dA.aa.ad,fj⟩,dA.ak,dA.ae,dA.Next⟩ fun rz =>
   bX 0 ⟨⟨dA.aa.aq,dA.aa.ad,fj⟩,rz.ak,dA.ae,rz.Next⟩ fun Fo =>
   iB n ⟨⟨dA.aa.aq,dA.aa.ad,fj⟩,Fo.ak,dA.ae,Fo.Next⟩ ⟨0,2,ino,0,r,slot,eS,false,false,0,[]⟩ fun mR rQ =>
   k0 rQ mR) n 0
  else
  aK (bc (aC (block-1)) xm.aa.ab.length) <|
  aK (bc slot (((xm.aa.ab.getD ((aC (block-1)).toNat) aA).an).length)) <|
  let yY:=(xm.aa.ab.set ((aC (block-1)).toNat) ⟨(xm.aa.ab.getD ((aC (block-1)).toNat) aA).cp,(((xm.aa.ab.getD ((aC (block-1)).toNat) aA).an).set slot.toNat ⟨name,ino⟩),(xm.aa.ab.getD ((aC (block-1)).toNat) aA).Text⟩)
  bV block fun D1 =>
  bX D1 ⟨⟨xm.aa.aq,xm.aa.ad,yY⟩,xm.ak,xm.ae,xm.Next⟩ fun Qn =>
  bX 0 ⟨⟨xm.aa.aq,xm.aa.ad,yY⟩,Qn.ak,xm.ae,Qn.Next⟩ fun Qm =>
  iB n ⟨⟨xm.aa.aq,xm.aa.ad,yY⟩,Qm.ak,xm.ae,Qm.Next⟩ ⟨0,2,ino,0,block,slot,eS,false,false,0,[]⟩ fun uC uw =>
  k0 uw uC) n 0 0 (aC ((((xm.aa.ad.getD ((aC (dir-1)).toNat) ay).ax).length:Int)-1))
def nY (n:Nat) (xm:Mem) (p:ByteArray) (kind:Int) (k0:Mem->Int->Option R):Option R :=
 dv n xm fun aZ =>
 kI n p fun r c8 dC =>
 mn n xm fun j0 =>
 bif ((!j0)||(!dC))||((!(kind==1))&&(!(kind==2))) then
  k0 aZ 6
 else
 gF n xm.aa p fun m8 =>
 bif (!(m8==0)) then
  k0 aZ 2
 else
 gF n xm.aa r fun rQ =>
 bif (rQ==0) then
  k0 aZ 1
 else
 aK (bc (aC (rQ-1)) xm.aa.ad.length) <|
 bif (!(((xm.aa.ad.getD ((aC (rQ-1)).toNat) ay).Kind)==2)) then
  k0 aZ 3
 else
 qn n xm rQ c8 fun D1 =>
 bif D1 then
  k0 aZ 5
 else
 ue n xm fun dA uw =>
 jE dA fun FE mo =>
 let z:=bif !(uw==0) then FE else false
 let vL:=bif !(uw==0) then mo.Next else dA.Next
 bif (uw==0)||(!z) then
  k0 aZ 4
 else
 dX kind fun i =>
 aK (bc (aC (uw-1)) dA.aa.ad.length) <|
 let row:=(dA.aa.ad.set ((aC (uw-1)).toNat) i)
 dJ uw fun Ng =>
 bX Ng ⟨⟨dA.aa.aq,row,dA.aa.ab⟩,dA.ak,dA.ae,vL⟩ fun ko =>
 qf n rQ c8 uw ⟨⟨dA.aa.aq,row,dA.aa.ab⟩,ko.ak,dA.ae,ko.Next⟩ fun m9 rz =>
 bif (m9==0) then
  k0 aZ 4
 else
 k0 rz 0
def pf (n:Nat) (xm:Mem) (p:ByteArray) (xk:Int) (s:ByteArray) (k0:Mem->Int->Option R):Option R :=
 dv n xm fun aZ =>
 jr n p fun r c8 =>
 mn n xm fun dC =>
 cj xk 0 1 fun j0 =>
 let z:=bif !((!dC)||(!c8)) then j0 else false
 bif (((!dC)||(!c8))||(!z))||(decide (16<(s.size:Int))) then
  k0 aZ 6
 else
 gF n xm.aa p fun m8 =>
 bif (m8==0) then
  k0 aZ 1
 else
 aK (bc (aC (m8-1)) xm.aa.ad.length) <|
 bif (!(((xm.aa.ad.getD ((aC (m8-1)).toNat) ay).Kind)==1)) then
  k0 aZ 3
 else
 dv n xm fun dA =>
 aK (bc (aC (m8-1)) xm.aa.ad.length) <|
 aK (bc xk (((xm.aa.ad.getD ((aC (m8-1)).toNat) ay).ax).length)) <|
 bif ((((xm.aa.ad.getD ((aC (m8-1)).toNat) ay).ax).getD xk.toNat 0)==0) then
  mC n xm fun mR rQ =>
  jE dA fun D1 mo =>
  let vL:=bif !(rQ==0) then D1 else false
  let yZ:=bif !(rQ==0) then mo.Next else dA.Next
  bif (rQ==0)||(!vL) then
  k0 aZ 4
  else
  aK (bc (aC (m8-1)) mR.aa.ad.length) <|
  aK (bc xk (((mR.aa.ad.getD ((aC (m8-1)).toNat) ay).ax).length)) <|
  let row:=(mR.aa.ad.set ((aC (m8-1)).toNat) ⟨(mR.aa.ad.getD ((aC (m8-1)).toNat) ay).Kind,(mR.aa.ad.getD ((aC (m8-1)).toNat) ay).Links,(((mR.aa.ad.getD ((aC (m8-1)).toNat) ay).ax).set xk.toNat rQ)⟩)
  dJ m8 fun uw =>
  bX uw ⟨⟨mR.aa.aq,row,mR.aa.ab⟩,mR.ak,mR.ae,mR.Next⟩ fun ko =>
  iB n ⟨⟨mR.aa.aq,row,mR.aa.ab⟩,ko.ak,mR.ae,ko.Next⟩ ⟨0,1,m8,xk,rQ,0,eS,false,false,0,[]⟩ fun uC FE =>
  aK (bc (aC (rQ-1)) uC.aa.ab.length) <|
  let b8:=(uC.aa.ab.set ((aC (rQ-1)).toNat) ⟨false,[],s⟩)
  bV rQ fun Ng =>
  bX Ng ⟨⟨uC.aa.aq,uC.aa.ad,b8⟩,uC.ak,uC.ae,uC.Next⟩ fun rz =>
  k0 ⟨⟨uC.aa.aq,uC.aa.ad,b8⟩,rz.ak,uC.ae,rz.Next⟩ 0
 else
 aK (bc (aC ((((xm.aa.ad.getD ((aC (m8-1)).toNat) ay).ax).getD xk.toNat 0)-1)) dA.aa.ab.length) <|
 let fj:=(dA.aa.ab.set ((aC ((((xm.aa.ad.getD ((aC (m8-1)).toNat) ay).ax).getD xk.toNat 0)-1)).toNat) ⟨false,[],s⟩)
 bV (((xm.aa.ad.getD ((aC (m8-1)).toNat) ay).ax).getD xk.toNat 0) fun m9 =>
 bX m9 ⟨⟨dA.aa.aq,dA.aa.ad,fj⟩,dA.ak,dA.ae,dA.Next⟩ fun Fo =>
 k0 ⟨⟨dA.aa.aq,dA.aa.ad,fj⟩,Fo.ak,dA.ae,Fo.Next⟩ 0
def eQ (dE:Bool) (pT:List Slot) (q0:(List ByteArray)->Option R):Nat->Int->(List ByteArray)->Option R
 | 0,_,_=>none
 | m+1,s,out =>
  bif (decide (s<(pT.length:Int)))&&dE then
  aK (bc s pT.length) <|
  bif (!(((pT.getD s.toNat au).Name)==eS)) then
   aK (bc s pT.length) <|
   let row:=(out++([(pT.getD s.toNat au).Name]))
   aK (bg row) <|
   eQ dE pT q0 m (aC (s+1)) row
  else
  eQ dE pT q0 m (aC (s+1)) out
  else
  q0 out
def jU (dE:List Bool) (fV:List Bool) (jc:List aX) (lK:List Block) (gY:List Int) (q0:(List ByteArray)->Option R):Nat->Int->(List ByteArray)->Option R
 | 0,_,_=>none
 | m+1,xk,out =>
  bif (decide (xk<(gY.length:Int))) then
  aK (bc xk gY.length) <|
  oH ⟨⟨dE,fV⟩,jc,lK⟩ (gY.getD xk.toNat 0) fun b r =>
  eQ b.cp b.an (fun B7 =>
   jU dE fV jc lK gY q0 m (aC (xk+1)) B7) m 0 out
  else
  q0 out
def uc (n:Nat) (d:aa) (i:Int) (k0:(List ByteArray)->Option R):Option R :=
 cj i 1 (d.ad.length:Int) fun r =>
 aK (!(!(!r))||(bc (aC (i-1)) d.ad.length)) <|
 bif (!r)||(!(((d.ad.getD ((aC (i-1)).toNat) ay).Kind)==2)) then
  k0 ([])
 else
 aK (bc (aC (i-1)) d.ad.length) <|
 let el:=(d.ad.getD ((aC (i-1)).toNat) ay)
 jU d.aq.ab d.aq.bD d.ad d.ab ((d.ad.getD ((aC (i-1)).toNat) ay).ax) (fun out =>
  k0 out) n 0 ([])
def jG (n:Nat) (i:Int) (fV:List aX) (gY:List bE) (q0:Bool->Option R) (q1:Option R):Nat->Int->Option R
 | 0,_=>none
 | m+1,xk =>
  bif (decide (xk<(gY.length:Int))) then
  aK (bc xk gY.length) <|
  let el:=(gY.getD xk.toNat aH)
  aK (!((el.Kind==4)&&(decide (0<el.bz)))||(bc (aC (i-1)) fV.length)) <|
  sO n ((fV.getD ((aC (i-1)).toNat) ay).ax) el.Block fun r =>
  let z:=bif (el.Kind==4)&&(decide (0<el.bz)) then r else false
  bif ((el.Kind==4)&&(decide (0<el.bz)))&&z then
   q0 true
  else
  jG n i fV gY q0 q1 m (aC (xk+1))
  else
  q1
def xE (n:Nat) (xm:Mem) (i:Int) (k0:Bool->Option R):Option R :=
 jG n i xm.aa.ad xm.ae (fun x =>
  k0 x) (
  k0 false) n 0
def jQ (id:Int) (deps:List bE) (q0:Int->Option R) (q1:Option R):Nat->Int->Option R
 | 0,_=>none
 | m+1,xk =>
  bif (decide (xk<(deps.length:Int))) then
  aK (bc xk deps.length) <|
  bif (((deps.getD xk.toNat aH).Id)==id) then
   aK (bc xk deps.length) <|
   q0 ((deps.getD xk.toNat aH).Kind)
  else
  jQ id deps q0 q1 m (aC (xk+1))
  else
  q1
def tN (n:Nat) (id:Int) (xm:Mem) (k0:Int->Mem->Option R):Option R :=
 jQ id xm.ae (fun x =>
  k0 x xm) (
  k0 0 xm) n 0
def ij (id:Int) (fT:List bE) (q0:(List bE)->Option R):Nat->Int->(List bE)->Option R
 | 0,_,_=>none
 | m+1,i,list =>
  bif (decide (i<(fT.length:Int))) then
  aK (bc i fT.length) <|
  bif (!(((fT.getD i.toNat aH).Id)==id)) then
   aK (bc i fT.length) <|
   let el:=(fT.getD i.toNat aH)
   let row:=(list++([el]))
   aK (bg row) <|
   ij id fT q0 m (aC (i+1)) row
  else
  ij id fT q0 m (aC (i+1)) list
  else
  q0 list
def jR (n:Nat) (xm:Mem) (id:Int) (k0:Mem->Option R):Option R :=
 dv n xm fun aZ =>
 ij id aZ.ae (fun list =>
  k0 ⟨aZ.aa,aZ.ak,list,aZ.Next⟩) n 0 ([])
def fE (id:Int) (after:Int) (bb:List Bool) (bi:List Bool) (di:List aX) (db:List Block) (q0:Int->(List Bool)->(List bE)->Option R):Nat->Int->Int->(List Bool)->(List bE)->Option R
 | 0,_,_,_,_=>none
 | m+1,xk,next,bG,deps =>
  bif (decide (xk<(deps.length:Int))) then
  aK (bc xk deps.length) <|
  aK (!(((deps.getD xk.toNat aH).Kind)==4)||(bc xk deps.length)) <|
  bif (((deps.getD xk.toNat aH).Kind)==4)&&(((deps.getD xk.toNat aH).bz)==id) then
   aK (bc xk deps.length) <|
   let row:=(deps.set xk.toNat ⟨(deps.getD xk.toNat aH).Id,(deps.getD xk.toNat aH).Kind,(deps.getD xk.toNat aH).Ino,(deps.getD xk.toNat aH).Ptr,(deps.getD xk.toNat aH).Block,(deps.getD xk.toNat aH).Slot,(deps.getD xk.toNat aH).Name,(deps.getD xk.toNat aH).aq,(deps.getD xk.toNat aH).et,after,(deps.getD xk.toNat aH).ab⟩)
   bif (after==0) then
   aK (bc xk row.length) <|
   bV ((row.getD xk.toNat aH).Block) fun r =>
   bX r ⟨⟨⟨bb,bi⟩,di,db⟩,bG,row,next⟩ fun mo =>
   fE id after bb bi di db q0 m (aC (xk+1)) mo.Next mo.ak row
   else
   fE id after bb bi di db q0 m (aC (xk+1)) next bG row
  else
  fE id after bb bi di db q0 m (aC (xk+1)) next bG deps
  else
  q0 next bG deps
def nZ (n:Nat) (id:Int) (after:Int) (xm:Mem) (k0:Mem->Option R):Option R :=
 jR n xm id fun aZ =>
 fE id after aZ.aa.aq.ab aZ.aa.aq.bD aZ.aa.ad aZ.aa.ab (fun next bG deps =>
  k0 ⟨aZ.aa,bG,deps,next⟩) n 0 aZ.Next aZ.ak aZ.ae
def eO (i:Int) (deps:List bE) (q0:(List bE)->Option R):Nat->Int->(List bE)->Option R
 | 0,_,_=>none
 | m+1,xk,list =>
  bif (decide (xk<(deps.length:Int))) then
  aK (bc xk deps.length) <|
  aK (!(!((!(((deps.getD xk.toNat aH).Kind)==1))&&(!(((deps.getD xk.toNat aH).Kind)==6))))||(bc xk deps.length)) <|
  bif ((!(((deps.getD xk.toNat aH).Kind)==1))&&(!(((deps.getD xk.toNat aH).Kind)==6)))||(!(((deps.getD xk.toNat aH).Ino)==i)) then
   aK (bc xk deps.length) <|
   let el:=(deps.getD xk.toNat aH)
   let row:=(list++([el]))
   aK (bg row) <|
   eO i deps q0 m (aC (xk+1)) row
  else
  eO i deps q0 m (aC (xk+1)) list
  else
  q0 list
def dS (vE:Nat) (di:List aX) (q0:(List Int)->Option R):Nat->Int->(List Int)->Option R
 | 0,_,_=>none
 | m+1,xk,blocks =>
  bif (decide (xk<(((di.getD vE ay).ax).length:Int))) then
  aK (bc xk (((di.getD vE ay).ax).length)) <|
  bif (decide (0<(((di.getD vE ay).ax).getD xk.toNat 0))) then
   aK (bc xk (((di.getD vE ay).ax).length)) <|
   let row:=(blocks++([(((di.getD vE ay).ax).getD xk.toNat 0)]))
   aK (bg row) <|
   dS vE di q0 m (aC (xk+1)) row
  else
  dS vE di q0 m (aC (xk+1)) blocks
  else
  q0 blocks
def mf (n:Nat) (i:Int) (xm:Mem) (k0:Mem->Option R):Option R :=
 cj xm.Next 1 99999 fun r =>
 let z:=bif !(decide (40<=(xm.ae.length:Int))) then r else false
 bif (decide (40<=(xm.ae.length:Int)))||(!z) then
  k0 xm
 else
 aK (bc (aC (i-1)) xm.aa.ad.length) <|
 let el:=(xm.aa.ad.getD ((aC (i-1)).toNat) ay)
 nH el fun mU =>
 dJ i fun c8 =>
 bX c8 xm fun mo =>
 bif (decide (0<mU.Links)) then
  aK (bc (aC (i-1)) xm.aa.ad.length) <|
  let row:=(xm.aa.ad.set ((aC (i-1)).toNat) ⟨mU.Kind,(aC (mU.Links-1)),mU.ax⟩)
  bif (decide (0<(aC (mU.Links-1))))||(mU.Kind==0) then
  k0 ⟨⟨xm.aa.aq,row,xm.aa.ab⟩,mo.ak,xm.ae,mo.Next⟩
  else
  eO i xm.ae (fun list =>
  dS ((aC (i-1)).toNat) row (fun blocks =>
   dX 0 fun M0 =>
   aK (bc (aC (i-1)) row.length) <|
   let b8:=(row.set ((aC (i-1)).toNat) M0)
   iB n ⟨⟨xm.aa.aq,b8,xm.aa.ab⟩,mo.ak,list,mo.Next⟩ ⟨0,5,i,0,0,0,eS,false,false,0,blocks⟩ fun aZ dC =>
   k0 aZ) n 0 ([])) n 0 ([])
 else
 aK (bc (aC (i-1)) xm.aa.ad.length) <|
 let fj:=(xm.aa.ad.set ((aC (i-1)).toNat) mU)
 bif (decide (0<mU.Links))||(mU.Kind==0) then
  k0 ⟨⟨xm.aa.aq,fj,xm.aa.ab⟩,mo.ak,xm.ae,mo.Next⟩
 else
 eO i xm.ae (fun VS =>
  dS ((aC (i-1)).toNat) fj (fun blocks_1 =>
  dX 0 fun i_3 =>
  aK (bc (aC (i-1)) fj.length) <|
  let yY:=(fj.set ((aC (i-1)).toNat) i_3)
  iB n ⟨⟨xm.aa.aq,yY,xm.aa.ab⟩,mo.ak,VS,mo.Next⟩ ⟨0,5,i,0,0,0,eS,false,false,0,blocks_1⟩ fun dA j0 =>
  k0 dA) n 0 ([])) n 0 ([])
def nL (n:Nat) (block:Int) (slot:Int) (xby:Int) (xm:Mem) (k0:Mem->Option R):Option R :=
 aK (bc (aC (block-1)) xm.aa.ab.length) <|
 aK (bc slot (((xm.aa.ab.getD ((aC (block-1)).toNat) aA).an).length)) <|
 qm n xm block slot fun r =>
 tN n r xm fun c8 mo =>
 aK (bc (aC (block-1)) xm.aa.ab.length) <|
 aK (bc slot (((xm.aa.ab.getD ((aC (block-1)).toNat) aA).an).length)) <|
 let row:=(xm.aa.ab.set ((aC (block-1)).toNat) ⟨(xm.aa.ab.getD ((aC (block-1)).toNat) aA).cp,(((xm.aa.ab.getD ((aC (block-1)).toNat) aA).an).set slot.toNat ⟨eS,0⟩),(xm.aa.ab.getD ((aC (block-1)).toNat) aA).Text⟩)
 bV block fun dC =>
 bX dC ⟨⟨xm.aa.aq,xm.aa.ad,row⟩,xm.ak,xm.ae,mo.Next⟩ fun ko =>
 bif (c8==2)||(c8==3) then
  nZ n r xby ⟨⟨xm.aa.aq,xm.aa.ad,row⟩,ko.ak,xm.ae,ko.Next⟩ fun rz =>
  mf n ((((xm.aa.ab.getD ((aC (block-1)).toNat) aA).an).getD slot.toNat au).Ino) rz fun Fo =>
  k0 Fo
 else
 iB n ⟨⟨xm.aa.aq,xm.aa.ad,row⟩,ko.ak,xm.ae,ko.Next⟩ ⟨0,4,(((xm.aa.ab.getD ((aC (block-1)).toNat) aA).an).getD slot.toNat au).Ino,0,block,slot,(((xm.aa.ab.getD ((aC (block-1)).toNat) aA).an).getD slot.toNat au).Name,false,false,xby,[]⟩ fun aZ j0 =>
 k0 aZ
def nu (n:Nat) (xm:Mem) (p:ByteArray) (k0:Mem->Int->Option R):Option R :=
 dv n xm fun aZ =>
 kI n p fun r c8 dC =>
 mn n xm fun j0 =>
 bif (!j0)||(!dC) then
  k0 aZ 6
 else
 gF n xm.aa r fun m8 =>
 lQ n xm.aa m8 c8 fun rQ D1 uw =>
 bif (uw==0) then
  k0 aZ 1
 else
 uc n xm.aa uw fun FE =>
 aK (!(!(decide (0<(FE.length:Int))))||(bc (aC (uw-1)) xm.aa.ad.length)) <|
 xE n xm uw fun Ng =>
 let z:=bif (!(decide (0<(FE.length:Int))))&&(((xm.aa.ad.getD ((aC (uw-1)).toNat) ay).Kind)==2) then Ng else false
 jE aZ fun m9 mo =>
 let vL:=bif !((decide (0<(FE.length:Int)))||((((xm.aa.ad.getD ((aC (uw-1)).toNat) ay).Kind)==2)&&z)) then m9 else false
 let yZ:=bif !((decide (0<(FE.length:Int)))||((((xm.aa.ad.getD ((aC (uw-1)).toNat) ay).Kind)==2)&&z)) then mo.Next else aZ.Next
 bif ((decide (0<(FE.length:Int)))||((((xm.aa.ad.getD ((aC (uw-1)).toNat) ay).Kind)==2)&&z))||(!vL) then
  k0 ⟨aZ.aa,aZ.ak,aZ.ae,yZ⟩ 5
 else
 dv n xm fun dA =>
 nL n rQ D1 0 dA fun ko =>
 k0 ko 0
def jM (n:Nat) (list:List ByteArray) (eR:List Bool) (dE:List Bool) (fV:List aX) (jc:List Block) (lK:List Bool) (gY:List bE) (q0:Bool->Option R) (q1:Option R):Nat->Int->Int->Int->Option R
 | 0,_,_,_=>none
 | m+1,i,xk,v =>
  bif (decide (xk<(list.length:Int))) then
  aK (bc xk list.length) <|
  lQ n ⟨⟨eR,dE⟩,fV,jc⟩ i (list.getD xk.toNat eS) fun r c8 dC =>
  qm n ⟨⟨⟨eR,dE⟩,fV,jc⟩,lK,gY,v⟩ r c8 fun j0 =>
  tN n j0 ⟨⟨⟨eR,dE⟩,fV,jc⟩,lK,gY,v⟩ fun m8 mo =>
  bif (decide (0<dC))&&((m8==2)||(m8==3)) then
   q0 true
  else
  jM n list eR dE fV jc lK gY q0 q1 m dC (aC (xk+1)) mo.Next
  else
  q1
def tY (n:Nat) (xm:Mem) (dir:ByteArray) (k0:Bool->Option R):Option R :=
 jr n dir fun r c8 =>
 jM n r xm.aa.aq.ab xm.aa.aq.bD xm.aa.ad xm.aa.ab xm.ak xm.ae (fun x =>
  k0 x) (
  k0 false) n 1 0 xm.Next
def qQ (n:Nat) (xm:Mem) (p:ByteArray) (q:ByteArray) (k0:Mem->Int->Option R):Option R :=
 dv n xm fun aZ =>
 kI n p fun r c8 dC =>
 kI n q fun j0 m8 rQ =>
 mn n xm fun D1 =>
 bif ((!D1)||(!dC))||(!rQ) then
  k0 aZ 6
 else
 gF n xm.aa r fun uw =>
 lQ n xm.aa uw c8 fun FE Ng m9 =>
 gF n xm.aa j0 fun CS =>
 bif (m9==0)||(CS==0) then
  k0 aZ 1
 else
 aK (bc (aC (m9-1)) xm.aa.ad.length) <|
 aK (!(!(!(((xm.aa.ad.getD ((aC (m9-1)).toNat) ay).Kind)==1)))||(bc (aC (CS-1)) xm.aa.ad.length)) <|
 bif (!(((xm.aa.ad.getD ((aC (m9-1)).toNat) ay).Kind)==1))||(!(((xm.aa.ad.getD ((aC (CS-1)).toNat) ay).Kind)==2)) then
  k0 aZ 3
 else
 gF n xm.aa q fun M1 =>
 bif (!(M1==0)) then
  k0 aZ 2
 else
 qn n xm CS m8 fun Jx =>
 tY n xm j0 fun MQ =>
 let z:=bif !Jx then MQ else false
 bif Jx||z then
  k0 aZ 5
 else
 jE aZ fun SJ mo =>
 bif !SJ then
  k0 ⟨aZ.aa,aZ.ak,aZ.ae,mo.Next⟩ 4
 else
 aK (bc (aC (m9-1)) xm.aa.ad.length) <|
 bif (decide (200<=(xm.aa.ad.getD ((aC (m9-1)).toNat) ay).Links)) then
  k0 ⟨aZ.aa,aZ.ak,aZ.ae,mo.Next⟩ 5
 else
 dv n xm fun dA =>
 aK (bc (aC (m9-1)) xm.aa.ad.length) <|
 aK (bc (aC (m9-1)) dA.aa.ad.length) <|
 let row:=(dA.aa.ad.set ((aC (m9-1)).toNat) ⟨(dA.aa.ad.getD ((aC (m9-1)).toNat) ay).Kind,(aC (((xm.aa.ad.getD ((aC (m9-1)).toNat) ay).Links)+1)),(dA.aa.ad.getD ((aC (m9-1)).toNat) ay).ax⟩)
 dJ m9 fun SR =>
 bX SR ⟨⟨dA.aa.aq,row,dA.aa.ab⟩,dA.ak,dA.ae,dA.Next⟩ fun ko =>
 qf n CS m8 m9 ⟨⟨dA.aa.aq,row,dA.aa.ab⟩,ko.ak,dA.ae,ko.Next⟩ fun JE rz =>
 bif (JE==0) then
  k0 ⟨aZ.aa,aZ.ak,aZ.ae,mo.Next⟩ 4
 else
 nL n FE Ng JE rz fun Fo =>
 k0 Fo 0
def qb (n:Nat) (xm:Mem) (e:Event) (k0:Mem->Int->Bool->Option R):Option R :=
 bif (e.Kind==1) then
  nY n xm e.Path 1 fun aZ r =>
  k0 aZ r true
 else
 bif (e.Kind==2) then
  nY n xm e.Path 2 fun dA c8 =>
  k0 dA c8 true
 else
 bif (e.Kind==3) then
  pf n xm e.Path e.At e.Text fun mR dC =>
  k0 mR dC true
 else
 bif (e.Kind==4) then
  nu n xm e.Path fun uC j0 =>
  k0 uC j0 true
 else
 bif (e.Kind==5) then
  qQ n xm e.Path e.To fun ab0 m8 =>
  k0 ab0 m8 true
 else
 k0 xm 0 false
def gO (q0:(List Node)->Option R):Nat->Int->(List Node)->Option R
 | 0,_,_=>none
 | m+1,xk,out =>
  aK (!(decide (0<xk))||(bc (aC (xk-1)) out.length)) <|
  aK (!(decide (0<xk))||(bc xk out.length)) <|
  bif (decide (0<xk))&&(QD ((out.getD xk.toNat eu).Path) ((out.getD ((aC (xk-1)).toNat) eu).Path)) then
  aK (bc xk out.length) <|
  let el:=(out.getD xk.toNat eu)
  aK (bc (aC (xk-1)) out.length) <|
  let kM:=(out.getD ((aC (xk-1)).toNat) eu)
  aK (bc xk out.length) <|
  let row:=(out.set xk.toNat kM)
  aK (bc (aC (xk-1)) row.length) <|
  let b8:=(row.set ((aC (xk-1)).toNat) el)
  gO q0 m (aC (xk-1)) b8
  else
  q0 out
def fO (q0:(List Node)->Option R):Nat->Int->(List Node)->Option R
 | 0,_,_=>none
 | m+1,i,out =>
  bif (decide (i<(out.length:Int))) then
  gO (fun B7 =>
   fO q0 m (aC (i+1)) B7) m i out
  else
  q0 out
def jk (n:Nat) (list:List Node) (k0:(List Node)->Option R):Option R :=
 let row:=(([])++list)
 aK (bg row) <|
 fO (fun out =>
  k0 out) n 1 row
def rn (p:ByteArray) (top:ByteArray) (k0:Bool->Option R):Option R :=
 aK (!((!(p==top))&&(decide ((top.size:Int)<(p.size:Int))))||(qd (aC ((top.size:Int)+1)) p.size)) <|
 aK (!((!(p==top))&&(decide ((top.size:Int)<(p.size:Int))))||(lV top (S [47]))) <|
 k0 ((p==top)||((decide ((top.size:Int)<(p.size:Int)))&&((p.extract 0 ((aC ((top.size:Int)+1)).toNat))==(top++(S [47])))))
def cY (eR:ByteArray) (fV:Int) (jc:ByteArray) (q0:(List Node)->Option R):Nat->Int->(List Node)->Option R
 | 0,_,_=>none
 | m+1,i,out =>
  bif (decide (i<(out.length:Int))) then
  aK (bc i out.length) <|
  aK (!(!(!(((out.getD i.toNat eu).Path)==eR)))||(bc i out.length)) <|
  bif (!(((out.getD i.toNat eu).Path)==eR))||((out.getD i.toNat eu).cp) then
   cY eR fV jc q0 m (aC (i+1)) out
  else
  bif (fV==0) then
   aK (bc i out.length) <|
   let row:=(out.set i.toNat ⟨(out.getD i.toNat eu).Path,(out.getD i.toNat eu).cp,jc,(out.getD i.toNat eu).Nt⟩)
   cY eR fV jc q0 m (aC (i+1)) row
  else
  aK (bc i out.length) <|
  let b8:=(out.set i.toNat ⟨(out.getD i.toNat eu).Path,(out.getD i.toNat eu).cp,(out.getD i.toNat eu).Head,jc⟩)
  cY eR fV jc q0 m (aC (i+1)) b8
  else
  q0 out
def dc (eR:ByteArray) (out:List Node) (q0:(List Node)->Option R):Nat->Int->(List Node)->Option R
 | 0,_,_=>none
 | m+1,i,rest =>
  bif (decide (i<(out.length:Int))) then
  aK (bc i out.length) <|
  rn ((out.getD i.toNat eu).Path) eR fun r =>
  bif !r then
   aK (bc i out.length) <|
   let el:=(out.getD i.toNat eu)
   let row:=(rest++([el]))
   aK (bg row) <|
   dc eR out q0 m (aC (i+1)) row
  else
  dc eR out q0 m (aC (i+1)) rest
  else
  q0 rest
def da (eR:ByteArray) (dE:ByteArray) (q0:(List Node)->Option R):Nat->Int->(List Node)->Option R
 | 0,_,_=>none
 | m+1,i,out =>
  bif (decide (i<(out.length:Int))) then
  aK (bc i out.length) <|
  aK (!(((out.getD i.toNat eu).Path)==eR)||(bc i out.length)) <|
  bif (((out.getD i.toNat eu).Path)==eR)&&(!((out.getD i.toNat eu).cp)) then
   aK (bc i out.length) <|
   let row:=(out.set i.toNat ⟨dE,(out.getD i.toNat eu).cp,(out.getD i.toNat eu).Head,(out.getD i.toNat eu).Nt⟩)
   da eR dE q0 m (aC (i+1)) row
  else
  da eR dE q0 m (aC (i+1)) out
  else
  q0 out
def lx (n:Nat) (list:List Node) (e:Event) (k0:(List Node)->Option R):Option R :=
 let row:=(([])++list)
 aK (bg row) <|
 bif (e.Kind==1) then
  bif (e.Kind==1) then
  let b8:=(row++([⟨e.Path,(e.Kind==2),eS,eS⟩]))
  aK (bg b8) <|
  jk n b8 fun r =>
  k0 r
  else
  bif (e.Kind==3) then
  cY e.Path e.At e.Text (fun out =>
   k0 out) n 0 row
  else
  bif (e.Kind==4) then
  dc e.Path row (fun rest =>
   k0 rest) n 0 ([])
  else
  bif (e.Kind==5) then
  da e.Path e.To (fun B7 =>
   jk n B7 fun c8 =>
   k0 c8) n 0 row
  else
  k0 row
 else
 bif (e.Kind==2) then
  let fj:=(row++([⟨e.Path,(e.Kind==2),eS,eS⟩]))
  aK (bg fj) <|
  jk n fj fun dC =>
  k0 dC
 else
 bif (e.Kind==3) then
  cY e.Path e.At e.Text (fun X8 =>
  k0 X8) n 0 row
 else
 bif (e.Kind==4) then
  dc e.Path row (fun VN =>
  k0 VN) n 0 ([])
 else
 bif (e.Kind==5) then
  da e.Path e.To (fun YF =>
  jk n YF fun j0 =>
  k0 j0) n 0 row
 else
 k0 row
def ff (i:Int) (dD:List bE) (q0:(List Int)->Option R):Nat->Int->(List Int)->Option R
 | 0,_,_=>none
 | m+1,xk,iD =>
  bif (decide (xk<(dD.length:Int))) then
  aK (bc xk dD.length) <|
  let el:=(dD.getD xk.toNat aH)
  bif (((el.Kind==1)&&(el.Ino==i))&&(decide (0<=el.Ptr)))&&(decide (el.Ptr<(iD.length:Int))) then
   aK (bc el.Ptr iD.length) <|
   let row:=(iD.set el.Ptr.toNat 0)
   ff i dD q0 m (aC (xk+1)) row
  else
  ff i dD q0 m (aC (xk+1)) iD
  else
  q0 iD
def nr (n:Nat) (xm:Mem) (i:Int) (k0:aX->Option R):Option R :=
 cj i 1 (xm.aa.ad.length:Int) fun r =>
 bif !r then
  dX 0 fun mU =>
  k0 mU
 else
 aK (bc (aC (i-1)) xm.aa.ad.length) <|
 let el:=(xm.aa.ad.getD ((aC (i-1)).toNat) ay)
 nH el fun M0 =>
 ff i xm.ae (fun v =>
  k0 ⟨M0.Kind,M0.Links,v⟩) n 0 M0.ax
def cZ (p:Int) (dD:List bE) (q0:(List Slot)->Option R):Nat->Int->(List Slot)->Option R
 | 0,_,_=>none
 | m+1,xk,iD =>
  bif (decide (xk<(dD.length:Int))) then
  aK (bc xk dD.length) <|
  let el:=(dD.getD xk.toNat aH)
  bif ((!(el.Block==p))||(decide (el.Slot<0)))||(decide ((iD.length:Int)<=el.Slot)) then
   cZ p dD q0 m (aC (xk+1)) iD
  else
  bif (el.Kind==2) then
   aK (bc el.Slot iD.length) <|
   let row:=(iD.set el.Slot.toNat ⟨eS,0⟩)
   bif (el.Kind==4)&&(decide (0<el.bz)) then
   aK (bc el.Slot row.length) <|
   let b8:=(row.set el.Slot.toNat ⟨el.Name,el.Ino⟩)
   cZ p dD q0 m (aC (xk+1)) b8
   else
   cZ p dD q0 m (aC (xk+1)) row
  else
  bif (el.Kind==4)&&(decide (0<el.bz)) then
   aK (bc el.Slot iD.length) <|
   let fj:=(iD.set el.Slot.toNat ⟨el.Name,el.Ino⟩)
   cZ p dD q0 m (aC (xk+1)) fj
  else
  cZ p dD q0 m (aC (xk+1)) iD
  else
  q0 iD
def ny (n:Nat) (xm:Mem) (p:Int) (k0:Block->Option R):Option R :=
 cj p 1 (xm.aa.ab.length:Int) fun r =>
 bif !r then
  k0 ⟨false,[],eS⟩
 else
 aK (bc (aC (p-1)) xm.aa.ab.length) <|
 let el:=(xm.aa.ab.getD ((aC (p-1)).toNat) aA)
 lS el fun b =>
 cZ p xm.ae (fun v =>
  k0 ⟨b.cp,v,b.Text⟩) n 0 b.an
def qu (n:Nat) (d:aa) (u:Int) (k0:ByteArray->Bool->Option R):Option R :=
 qc n d fun r =>
 cj u 0 20 fun c8 =>
 let z:=bif !(!r) then c8 else false
 bif (!r)||(!z) then
  k0 eS false
 else
 qk n d u fun dC =>
 k0 dC true
def gN (n:Nat) (v:Int) (eR:List Bool) (dE:List Bool) (fV:List aX) (jc:List Block) (lK:List Bool) (gY:List bE) (q0:(List aX)->Option R):Nat->Int->(List aX)->Option R
 | 0,_,_=>none
 | m+1,i,pT =>
  bif (decide (i<=8)) then
  nr n ⟨⟨⟨eR,dE⟩,fV,jc⟩,lK,gY,v⟩ i fun mU =>
  aK (bc (aC (i-1)) pT.length) <|
  let row:=(pT.set ((aC (i-1)).toNat) mU)
  gN n v eR dE fV jc lK gY q0 m (aC (i+1)) row
  else
  q0 pT
def gQ (n:Nat) (v:Int) (eR:List Bool) (dE:List Bool) (fV:List aX) (jc:List Block) (lK:List Bool) (gY:List bE) (q0:(List Block)->Option R):Nat->Int->(List Block)->Option R
 | 0,_,_=>none
 | m+1,p,dD =>
  bif (decide (p<=16)) then
  ny n ⟨⟨⟨eR,dE⟩,fV,jc⟩,lK,gY,v⟩ p fun b =>
  aK (bc (aC (p-1)) dD.length) <|
  let row:=(dD.set ((aC (p-1)).toNat) b)
  gQ n v eR dE fV jc lK gY q0 m (aC (p+1)) row
  else
  q0 dD
def pt (n:Nat) (xm:Mem) (u:Int) (k0:ByteArray->Bool->Option R):Option R :=
 mn n xm fun r =>
 cj u 0 20 fun c8 =>
 let z:=bif !(!r) then c8 else false
 bif (!r)||(!z) then
  k0 eS false
 else
 jS n xm.aa fun d =>
 gN n xm.Next xm.aa.aq.ab xm.aa.aq.bD xm.aa.ad xm.aa.ab xm.ak xm.ae (fun v =>
  gQ n xm.Next xm.aa.aq.ab xm.aa.aq.bD xm.aa.ad xm.aa.ab xm.ak xm.ae (fun eR =>
  qu n ⟨d.aq,v,eR⟩ u fun dC j0 =>
  k0 dC j0) n 1 d.ab) n 1 d.ad
def iF (v:List ByteArray) (q0:Bool->Option R) (q1:Option R):Nat->Int->Option R
 | 0,_=>none
 | m+1,i =>
  bif (decide (i<(v.length:Int))) then
  aK (bc i v.length) <|
  bif (decide (60<((v.getD i.toNat eS).size:Int))) then
   q0 false
  else
  iF v q0 q1 m (aC (i+1))
  else
  q1
def n8 (n:Nat) (d:Device) (k0:Bool->Option R):Option R :=
 iF d.cq (fun x =>
  k0 x) (
  k0 ((d.cq.length:Int)==21)) n 0
def EX (n:Nat) (f:Fs) (k0:Bool->Option R):Option R :=
 mn n f.Mem fun r =>
 n8 n f.Device fun c8 =>
 let z:=bif r then c8 else false
 k0 (r&&z)
def nO (n:Nat) (f:Fs) (k0:Fs->Option R):Option R :=
 dv n f.Mem fun xm =>
 let row:=(([])++f.Device.cq)
 aK (bg row) <|
 k0 ⟨xm,⟨row⟩⟩
def py (n:Nat) (d:Device) (u:Int) (s:ByteArray) (k0:Device->Bool->Option R):Option R :=
 let row:=(([])++d.cq)
 aK (bg row) <|
 n8 n d fun r =>
 cj u 0 20 fun c8 =>
 let z:=bif !(!r) then c8 else false
 bif ((!r)||(!z))||(decide (60<(s.size:Int))) then
  k0 ⟨row⟩ false
 else
 aK (bc u row.length) <|
 let b8:=(row.set u.toNat s)
 k0 ⟨b8⟩ true
def fw (u:Int) (q0:(List bE)->Option R):Nat->Int->(List bE)->Option R
 | 0,_,_=>none
 | m+1,xk,deps =>
  bif (decide (xk<(deps.length:Int))) then
  aK (bc xk deps.length) <|
  let el:=(deps.getD xk.toNat aH)
  bif (u==0)&&((el.Kind==1)||(el.Kind==2)) then
   aK (bc xk deps.length) <|
   let row:=(deps.set xk.toNat ⟨(deps.getD xk.toNat aH).Id,(deps.getD xk.toNat aH).Kind,(deps.getD xk.toNat aH).Ino,(deps.getD xk.toNat aH).Ptr,(deps.getD xk.toNat aH).Block,(deps.getD xk.toNat aH).Slot,(deps.getD xk.toNat aH).Name,true,(deps.getD xk.toNat aH).et,(deps.getD xk.toNat aH).bz,(deps.getD xk.toNat aH).ab⟩)
   dJ el.Ino fun r =>
   let z:=bif (el.Kind==2) then r else 0
   bV el.Block fun c8 =>
   let vL:=bif (!((el.Kind==2)&&(z==u)))&&(el.Kind==1) then c8 else 0
   bif ((el.Kind==2)&&(z==u))||((el.Kind==1)&&(vL==u)) then
   aK (bc xk row.length) <|
   let b8:=(row.set xk.toNat ⟨(row.getD xk.toNat aH).Id,(row.getD xk.toNat aH).Kind,(row.getD xk.toNat aH).Ino,(row.getD xk.toNat aH).Ptr,(row.getD xk.toNat aH).Block,(row.getD xk.toNat aH).Slot,(row.getD xk.toNat aH).Name,(row.getD xk.toNat aH).aq,true,(row.getD xk.toNat aH).bz,(row.getD xk.toNat aH).ab⟩)
   fw u q0 m (aC (xk+1)) b8
   else
   fw u q0 m (aC (xk+1)) row
  else
  dJ el.Ino fun dC =>
  let yZ:=bif (el.Kind==2) then dC else 0
  bV el.Block fun j0 =>
  let PJ:=bif (!((el.Kind==2)&&(yZ==u)))&&(el.Kind==1) then j0 else 0
  bif ((el.Kind==2)&&(yZ==u))||((el.Kind==1)&&(PJ==u)) then
   aK (bc xk deps.length) <|
   let fj:=(deps.set xk.toNat ⟨(deps.getD xk.toNat aH).Id,(deps.getD xk.toNat aH).Kind,(deps.getD xk.toNat aH).Ino,(deps.getD xk.toNat aH).Ptr,(deps.getD xk.toNat aH).Block,(deps.getD xk.toNat aH).Slot,(deps.getD xk.toNat aH).Name,(deps.getD xk.toNat aH).aq,true,(deps.getD xk.toNat aH).bz,(deps.getD xk.toNat aH).ab⟩)
   fw u q0 m (aC (xk+1)) fj
  else
  fw u q0 m (aC (xk+1)) deps
  else
  q0 deps
def xH (n:Nat) (u:Int) (xm:Mem) (k0:Mem->Option R):Option R :=
 fw u (fun deps =>
  k0 ⟨xm.aa,xm.ak,deps,xm.Next⟩) n 0 xm.ae
def gH (dD:List Int) (q0:(List Bool)->Option R):Nat->Int->(List Bool)->Option R
 | 0,_,_=>none
 | m+1,xk,bb =>
  bif (decide (xk<(dD.length:Int))) then
  aK (bc xk dD.length) <|
  aK (bc (aC ((dD.getD xk.toNat 0)-1)) bb.length) <|
  let row:=(bb.set ((aC ((dD.getD xk.toNat 0)-1)).toNat) false)
  gH dD q0 m (aC (xk+1)) row
  else
  q0 bb
def eU (n:Nat) (all:List bE) (dD:List Int) (q0:Int->(List Bool)->(List Bool)->(List aX)->(List Block)->(List Bool)->(List bE)->Option R):Nat->Int->Int->(List Bool)->(List Bool)->(List aX)->(List Block)->(List Bool)->(List bE)->Option R
 | 0,_,_,_,_,_,_,_,_=>none
 | m+1,xk,next,bb,bi,di,db,bG,deps =>
  bif (decide (xk<(all.length:Int))) then
  aK (bc xk all.length) <|
  aK (!(((all.getD xk.toNat aH).Kind)==4)||(bc xk all.length)) <|
  sO n dD ((all.getD xk.toNat aH).Block) fun r =>
  let z:=bif (((all.getD xk.toNat aH).Kind)==4) then r else false
  bif (((all.getD xk.toNat aH).Kind)==4)&&z then
   aK (bc xk all.length) <|
   jR n ⟨⟨⟨bb,bi⟩,di,db⟩,bG,deps,next⟩ ((all.getD xk.toNat aH).Id) fun xm =>
   aK (bc xk all.length) <|
   mf n ((all.getD xk.toNat aH).Ino) xm fun mo =>
   eU n all dD q0 m (aC (xk+1)) mo.Next mo.aa.aq.ab mo.aa.aq.bD mo.aa.ad mo.aa.ab mo.ak mo.ae
  else
  eU n all dD q0 m (aC (xk+1)) next bb bi di db bG deps
  else
  q0 next bb bi di db bG deps
def rj (n:Nat) (d:bE) (xm:Mem) (k0:Mem->Option R):Option R :=
 jR n xm d.Id fun aZ =>
 gH d.ab (fun bb =>
  aK (bc (aC (d.Ino-1)) aZ.aa.aq.bD.length) <|
  let row:=(aZ.aa.aq.bD.set ((aC (d.Ino-1)).toNat) false)
  bX 0 ⟨⟨⟨bb,row⟩,aZ.aa.ad,aZ.aa.ab⟩,aZ.ak,aZ.ae,aZ.Next⟩ fun mo =>
  eU n aZ.ae d.ab (fun next Qs bi di db bG deps =>
  k0 ⟨⟨⟨Qs,bi⟩,di,db⟩,bG,deps,next⟩) n 0 mo.Next bb row aZ.aa.ad aZ.aa.ab mo.ak aZ.ae) n 0 aZ.aa.aq.ab
def gf (block:Int) (list:List bE) (q0:Bool->Option R) (q1:Option R):Nat->Int->Option R
 | 0,_=>none
 | m+1,xk =>
  bif (decide (xk<(list.length:Int))) then
  aK (bc xk list.length) <|
  aK (!(!(((list.getD xk.toNat aH).Kind)==1))||(bc xk list.length)) <|
  aK (!((((list.getD xk.toNat aH).Kind)==1)||(((list.getD xk.toNat aH).Kind)==6))||(bc xk list.length)) <|
  bif ((((list.getD xk.toNat aH).Kind)==1)||(((list.getD xk.toNat aH).Kind)==6))&&(((list.getD xk.toNat aH).Block)==block) then
   q0 true
  else
  gf block list q0 q1 m (aC (xk+1))
  else
  q1
def nv (n:Nat) (list:List bE) (block:Int) (k0:Bool->Option R):Option R :=
 gf block list (fun x =>
  k0 x) (
  k0 false) n 0
def fH (n:Nat) (before:List bE) (bb:List Bool) (bi:List Bool) (di:List aX) (db:List Block) (deps:List bE) (q0:Int->(List bE)->(List Bool)->Option R):Nat->Int->Int->(List bE)->(List Bool)->Option R
 | 0,_,_,_,_=>none
 | m+1,xk,next,list,bG =>
  bif (decide (xk<(before.length:Int))) then
  aK (bc xk before.length) <|
  let el:=(before.getD xk.toNat aH)
  bif ((el.Kind==1)&&el.aq)&&el.et then
   dJ el.Ino fun r =>
   bX r ⟨⟨⟨bb,bi⟩,di,db⟩,bG,deps,next⟩ fun mo =>
   nv n before el.Block fun c8 =>
   let z:=bif false then c8 else false
   let row:=(list++([⟨el.Id,6,el.Ino,el.Ptr,el.Block,el.Slot,el.Name,el.aq,el.et,el.bz,(before.getD xk.toNat aH).ab⟩]))
   aK (bg row) <|
   fH n before bb bi di db deps q0 m (aC (xk+1)) mo.Next row mo.ak
  else
  nv n before el.Block fun dC =>
  let vL:=bif ((el.Kind==2)&&el.aq)&&el.et then dC else false
  bif (((el.Kind==2)&&el.aq)&&el.et)&&(!vL) then
   bV el.Block fun j0 =>
   bX j0 ⟨⟨⟨bb,bi⟩,di,db⟩,bG,deps,next⟩ fun ko =>
   let b8:=(list++([⟨el.Id,3,el.Ino,el.Ptr,el.Block,el.Slot,el.Name,el.aq,el.et,el.bz,(before.getD xk.toNat aH).ab⟩]))
   aK (bg b8) <|
   fH n before bb bi di db deps q0 m (aC (xk+1)) ko.Next b8 ko.ak
  else
  let fj:=(list++([el]))
  aK (bg fj) <|
  fH n before bb bi di db deps q0 m (aC (xk+1)) next fj bG
  else
  q0 next list bG
def l9 (n:Nat) (xm:Mem) (k0:Mem->Option R):Option R :=
 let row:=(([])++xm.ae)
 aK (bg row) <|
 fH n row xm.aa.aq.ab xm.aa.aq.bD xm.aa.ad xm.aa.ab xm.ae (fun next list bG =>
  k0 ⟨xm.aa,bG,list,next⟩) n 0 xm.Next ([]) xm.ak
def iT (n:Nat) (u:Int) (before:List bE) (q0:Int->(List Bool)->(List Bool)->(List aX)->(List Block)->(List Bool)->(List bE)->Option R):Nat->Int->Int->(List Bool)->(List Bool)->(List aX)->(List Block)->(List Bool)->(List bE)->Option R
 | 0,_,_,_,_,_,_,_,_=>none
 | m+1,xk,eR,yW,pT,dD,oW,iD,fT =>
  bif (decide (xk<(before.length:Int))) then
  aK (bc xk before.length) <|
  let el:=(before.getD xk.toNat aH)
  dJ el.Ino fun r =>
  let z:=bif (el.Kind==6) then r else 0
  bif (el.Kind==6)&&(z==u) then
   jR n ⟨⟨⟨yW,pT⟩,dD,oW⟩,iD,fT,eR⟩ el.Id fun xm =>
   iT n u before q0 m (aC (xk+1)) xm.Next xm.aa.aq.ab xm.aa.aq.bD xm.aa.ad xm.aa.ab xm.ak xm.ae
  else
  dJ el.Ino fun c8 =>
  let vL:=bif (el.Kind==5) then c8 else 0
  bif (el.Kind==5)&&(vL==u) then
   rj n el ⟨⟨⟨yW,pT⟩,dD,oW⟩,iD,fT,eR⟩ fun mo =>
   iT n u before q0 m (aC (xk+1)) mo.Next mo.aa.aq.ab mo.aa.aq.bD mo.aa.ad mo.aa.ab mo.ak mo.ae
  else
  bV el.Block fun dC =>
  let yZ:=bif (el.Kind==3) then dC else 0
  bif (el.Kind==3)&&(yZ==u) then
   nZ n el.Id 0 ⟨⟨⟨yW,pT⟩,dD,oW⟩,iD,fT,eR⟩ fun ko =>
   iT n u before q0 m (aC (xk+1)) ko.Next ko.aa.aq.ab ko.aa.aq.bD ko.aa.ad ko.aa.ab ko.ak ko.ae
  else
  bV el.Block fun j0 =>
  let PJ:=bif (el.Kind==4)&&(el.bz==0) then j0 else 0
  bif ((el.Kind==4)&&(el.bz==0))&&(PJ==u) then
   jR n ⟨⟨⟨yW,pT⟩,dD,oW⟩,iD,fT,eR⟩ el.Id fun aZ =>
   mf n el.Ino aZ fun rz =>
   iT n u before q0 m (aC (xk+1)) rz.Next rz.aa.aq.ab rz.aa.aq.bD rz.aa.ad rz.aa.ab rz.ak rz.ae
  else
  iT n u before q0 m (aC (xk+1)) eR yW pT dD oW iD fT
  else
  q0 eR yW pT dD oW iD fT
def ED (n:Nat) (xm:Mem) (u:Int) (k0:Mem->Option R):Option R :=
 dv n xm fun aZ =>
 mn n xm fun r =>
 cj u 0 20 fun c8 =>
 let z:=bif !(!r) then c8 else false
 bif (!r)||(!z) then
  k0 aZ
 else
 aK (bc u aZ.ak.length) <|
 let row:=(aZ.ak.set u.toNat false)
 xH n u ⟨aZ.aa,row,aZ.ae,aZ.Next⟩ fun mo =>
 iT n u xm.ae (fun v eR dE fV jc lK gY =>
  l9 n ⟨⟨⟨eR,dE⟩,fV,jc⟩,lK,gY,v⟩ fun ko =>
  k0 ko) n 0 mo.Next mo.aa.aq.ab mo.aa.aq.bD mo.aa.ad mo.aa.ab mo.ak mo.ae
def g8 (n:Nat) (f:Fs) (u:Int) (k0:Fs->Bool->Option R):Option R :=
 pt n f.Mem u fun r c8 =>
 EX n f fun dC =>
 bif (!dC)||(!c8) then
  nO n f fun Nl =>
  k0 Nl false
 else
 py n f.Device u r fun d j0 =>
 bif !j0 then
  nO n f fun Zp =>
  k0 Zp false
 else
 ED n f.Mem u fun xm =>
 k0 ⟨xm,d⟩ true
def B5 (fT:List Bool) (q0:Int->Option R):Nat->Int->Option R
 | 0,_=>none
 | m+1,u =>
  aK (!(decide (u<(fT.length:Int)))||(bc u fT.length)) <|
  bif (decide (u<(fT.length:Int)))&&(!(fT.getD u.toNat false)) then
  B5 fT q0 m (aC (u+1))
  else
  q0 u
def jC (fT:List Bool) (q0:Int->Option R):Nat->Int->Option R
 | 0,_=>none
 | m+1,u =>
  aK (!(decide (u<(fT.length:Int)))||(bc u fT.length)) <|
  bif (decide (u<(fT.length:Int)))&&(!(fT.getD u.toNat false)) then
  jC fT q0 m (aC (u+1))
  else
  q0 u
def mb (n:Nat) (q0:Int->(List Bool)->(List Bool)->(List aX)->(List Block)->(List Bool)->(List bE)->(List ByteArray)->Option R) (q1:Int->(List Bool)->(List Bool)->(List aX)->(List Block)->(List Bool)->(List bE)->(List ByteArray)->Option R):Nat->Int->Int->(List Bool)->(List Bool)->(List aX)->(List Block)->(List Bool)->(List bE)->(List ByteArray)->Option R
 | 0,_,_,_,_,_,_,_,_,_=>none
 | m+1,i,eR,pT,dD,oW,iD,fT,zi,r7 =>
  bif (decide (i<400)) then
  jC fT (fun u =>
   bif (u==(fT.length:Int)) then
   q0 eR pT dD oW iD fT zi r7
   else
   g8 n ⟨⟨⟨⟨pT,dD⟩,oW,iD⟩,fT,zi,eR⟩,⟨r7⟩⟩ u fun f r =>
   bif !r then
   q0 eR pT dD oW iD fT zi r7
   else
   mb n q0 q1 m (aC (i+1)) f.Mem.Next f.Mem.aa.aq.ab f.Mem.aa.aq.bD f.Mem.aa.ad f.Mem.aa.ab f.Mem.ak f.Mem.ae f.Device.cq) m 0
  else
  q1 eR pT dD oW iD fT zi r7
def oZ (n:Nat) (f:Fs) (k0:Fs->Option R):Option R :=
 nO n f fun Nl =>
 mb n (fun v eR dE fV jc lK gY pV =>
  k0 ⟨⟨⟨⟨eR,dE⟩,fV,jc⟩,lK,gY,v⟩,⟨pV⟩⟩) (fun yW pT dD oW iD fT zi r7 =>
  k0 ⟨⟨⟨⟨pT,dD⟩,oW,iD⟩,fT,zi,yW⟩,⟨r7⟩⟩) n 0 Nl.Mem.Next Nl.Mem.aa.aq.ab Nl.Mem.aa.aq.bD Nl.Mem.aa.ad Nl.Mem.aa.ab Nl.Mem.ak Nl.Mem.ae Nl.Device.cq
def iM (i:Int) (q0:Int->Option R):Nat->Int->Int->Option R
 | 0,_,_=>none
 | m+1,xn,xk =>
  bif (decide (xk<(i.tmod 8))) then
  iM i q0 m (aC (xn.tdiv 2)) (aC (xk+1))
  else
  q0 xn
def dx (s:ByteArray) (q0:(List Bool)->(List Bool)->Option R):Nat->Int->(List Bool)->(List Bool)->Option R
 | 0,_,_,_=>none
 | m+1,i,dE,fV =>
  bif (decide (i<24)) then
  aK (bc (aC (i.tdiv 8)) s.size) <|
  iM i (fun xn =>
   bif (decide (i<16)) then
   let row:=(dE++([((xn.tmod 2)==1)]))
   aK (bg row) <|
   dx s q0 m (aC (i+1)) row fV
   else
   let b8:=(fV++([((xn.tmod 2)==1)]))
   aK (bg b8) <|
   dx s q0 m (aC (i+1)) dE b8) m (aC ((bt s ((aC (i.tdiv 8)).toNat):Int))) 0
  else
  q0 dE fV
def qo (n:Nat) (s:ByteArray) (k0:aq->Bool->Option R):Option R :=
 bif (!((s.size:Int)==3)) then
  k0 ⟨[],[]⟩ false
 else
 dx s (fun v eR =>
  k0 ⟨v,eR⟩ true) n 0 ([]) ([])
def po (n:Nat) (s:ByteArray) (k0:aX->Bool->Option R):Option R :=
 bif (!((s.size:Int)==4)) then
  k0 ⟨0,0,[]⟩ false
 else
 aK (bc 0 s.size) <|
 aK (bc 1 s.size) <|
 aK (bc 2 s.size) <|
 aK (bc 3 s.size) <|
 let lit:=([(aC ((bt s 2:Int))),(aC ((bt s 3:Int)))]:List Int)
 nQ n ⟨(aC ((bt s 0:Int))),(aC ((bt s 1:Int))),lit⟩ fun r =>
 bif !r then
  k0 ⟨0,0,[]⟩ false
 else
 k0 ⟨(aC ((bt s 0:Int))),(aC ((bt s 1:Int))),lit⟩ true
def jJ (n:Nat) (text:ByteArray) (xat:Int) (q0:Int->Int->Bool->Option R) (q1:Option R):Nat->Int->Int->Int->Option R
 | 0,_,_,_=>none
 | m+1,xn,scale,i =>
  bif (decide (i<(text.size:Int)))&&(decide (i<(aC (xat+5)))) then
  aK (bc i text.size) <|
  aK (bc i text.size) <|
  bif (decide ((bt text i.toNat:Int)<128)) then
   sT n (aC (xn+(aC (((aC ((bt text i.toNat:Int))).tmod 128)*scale)))) fun r =>
   let z:=bif !(decide (1000000000<(aC (xn+(aC (((aC ((bt text i.toNat:Int))).tmod 128)*scale)))))) then r else eS
   aK (!(!(decide (1000000000<(aC (xn+(aC (((aC ((bt text i.toNat:Int))).tmod 128)*scale)))))))||(j7 xat (aC (i+1)) text.size)) <|
   bif (decide (1000000000<(aC (xn+(aC (((aC ((bt text i.toNat:Int))).tmod 128)*scale))))))||(!(z==(text.extract xat.toNat ((aC (i+1)).toNat)))) then
   q0 0 0 false
   else
   q0 (aC (xn+(aC (((aC ((bt text i.toNat:Int))).tmod 128)*scale)))) (aC (i+1)) true
  else
  jJ n text xat q0 q1 m (aC (xn+(aC (((aC ((bt text i.toNat:Int))).tmod 128)*scale)))) (aC (scale*128)) (aC (i+1))
  else
  q1
def uh (n:Nat) (text:ByteArray) (xat:Int) (k0:Int->Int->Bool->Option R):Option R :=
 cj xat 0 (text.size:Int) fun r =>
 bif !r then
  k0 0 0 false
 else
 jJ n text xat (fun x kD Ci =>
  k0 x kD Ci) (
  k0 0 0 false) n 0 1 xat
def pb (n:Nat) (text:ByteArray) (xat:Int) (k0:ByteArray->Int->Bool->Option R):Option R :=
 uh n text xat fun r c8 dC =>
 bif ((!dC)||(decide (20000<r)))||(decide ((aC ((text.size:Int)-c8))<r)) then
  k0 eS 0 false
 else
 aK (j7 c8 (aC (c8+r)) text.size) <|
 k0 (text.extract c8.toNat ((aC (c8+r)).toNat)) (aC (c8+r)) true
def gS (n:Nat) (s:ByteArray) (q0:Bool->Bool->ByteArray->(List Slot)->Option R) (q1:(List Slot)->Option R):Nat->Int->Int->(List Slot)->Option R
 | 0,_,_,_=>none
 | m+1,xat,i,lK =>
  bif (decide (i<4))&&(decide (xat<(s.size:Int))) then
  pb n s (aC (xat+1)) fun r c8 dC =>
  bif !dC then
   q0 false false eS ([])
  else
  aK (bc xat s.size) <|
  let row:=(lK++([⟨r,(aC ((bt s xat.toNat:Int)))⟩]))
  aK (bg row) <|
  gS n s q0 q1 m c8 (aC (i+1)) row
  else
  q1 lK
def o0 (n:Nat) (s:ByteArray) (k0:Block->Bool->Option R):Option R :=
 bif (s==eS) then
  k0 ⟨false,[],eS⟩ false
 else
 aK (qd 1 s.size) <|
 aK (bc 0 s.size) <|
 bif ((bt s 0:Int)==100) then
  gS n s (fun x v eR dE =>
  k0 ⟨v,dE,eR⟩ x) (fun fV =>
  g6 n ⟨true,fV,eS⟩ fun r c8 =>
  bif (!c8)||(!(r==s)) then
   k0 ⟨false,[],eS⟩ false
  else
  k0 ⟨true,fV,eS⟩ true) n 1 0 ([])
 else
 g6 n ⟨false,[],(s.extract 1 s.size)⟩ fun dC j0 =>
 bif (!j0)||(!(dC==s)) then
  k0 ⟨false,[],eS⟩ false
 else
 k0 ⟨false,[],(s.extract 1 s.size)⟩ true
def jt (q0:(List Bool)->Option R):Nat->Int->(List Bool)->Option R
 | 0,_,_=>none
 | m+1,i,pT =>
  bif (decide (i<(pT.length:Int))) then
  aK (bc i pT.length) <|
  let row:=(pT.set i.toNat true)
  jt q0 m (aC (i+1)) row
  else
  q0 pT
def hZ (q0:(List Bool)->Option R):Nat->Int->(List Bool)->Option R
 | 0,_,_=>none
 | m+1,i,dD =>
  bif (decide (i<(dD.length:Int))) then
  aK (bc i dD.length) <|
  let row:=(dD.set i.toNat true)
  hZ q0 m (aC (i+1)) row
  else
  q0 dD
def eM (n:Nat) (v:List ByteArray) (q0:(List aX)->Option R):Nat->Int->(List aX)->Option R
 | 0,_,_=>none
 | m+1,i,pV =>
  bif (decide (i<8)) then
  aK (bc (aC (1+(aC (i.tdiv 2)))) v.length) <|
  dX 0 fun mU =>
  bif (((v.getD ((aC (1+(aC (i.tdiv 2)))).toNat) eS).size:Int)==8) then
   aK (j7 (aC (4*(i.tmod 2))) (aC ((aC (4*(i.tmod 2)))+4)) (v.getD ((aC (1+(aC (i.tdiv 2)))).toNat) eS).size) <|
   po n ((v.getD ((aC (1+(aC (i.tdiv 2)))).toNat) eS).extract ((aC (4*(i.tmod 2))).toNat) ((aC ((aC (4*(i.tmod 2)))+4)).toNat)) fun M0 r =>
   bif r then
   let row:=(pV++([M0]))
   aK (bg row) <|
   eM n v q0 m (aC (i+1)) row
   else
   let b8:=(pV++([mU]))
   aK (bg b8) <|
   eM n v q0 m (aC (i+1)) b8
  else
  let fj:=(pV++([mU]))
  aK (bg fj) <|
  eM n v q0 m (aC (i+1)) fj
  else
  q0 pV
def gy (n:Nat) (v:List ByteArray) (q0:(List Block)->Option R):Nat->Int->(List Block)->Option R
 | 0,_,_=>none
 | m+1,i,yW =>
  bif (decide (i<16)) then
  aK (bc (aC (5+i)) v.length) <|
  o0 n (v.getD ((aC (5+i)).toNat) eS) fun b r =>
  let row:=(yW++([b]))
  aK (bg row) <|
  gy n v q0 m (aC (i+1)) row
  else
  q0 yW
def nX (n:Nat) (d:Device) (k0:aa->Bool->Option R):Option R :=
 n8 n d fun r =>
 bif !r then
  k0 ⟨⟨[],[]⟩,[],[]⟩ false
 else
 aK (bc 0 d.cq.length) <|
 qo n (d.cq.getD 0 eS) fun b c8 =>
 bif !c8 then
  lU fun xf =>
  jt (fun v =>
  hZ (fun eR =>
   eM n d.cq (fun dE =>
   gy n d.cq (fun fV =>
    k0 ⟨⟨v,eR⟩,dE,fV⟩ true) n 0 ([])) n 0 ([])) n 0 xf.bD) n 0 xf.ab
 else
 eM n d.cq (fun jc =>
  gy n d.cq (fun lK =>
  k0 ⟨b,jc,lK⟩ true) n 0 ([])) n 0 ([])
def tT (n:Nat) (d:aa) (k0:aa->Option R):Option R:=none
def tA (n:Nat) (d:Device) (k0:Fs->Bool->Option R):Option R:=none
def oD (n:Nat) (d:aa) (k0:(List Node)->Option R):Option R:=none
def tS (n:Nat) (e:Event) (w:World) (k0:World->Option R):Option R :=
 qb n w.Fs.Mem e fun xm r c8 =>
 bif c8 then
  bif (r==0) then
  lx n w.Model e fun dC =>
  bif (e.Kind==6) then
   g8 n ⟨xm,w.Fs.Device⟩ e.At fun f j0 =>
   let row:=(([])++w.jl)
   aK (bg row) <|
   let b8:=(row++([r]))
   aK (bg b8) <|
   k0 ⟨f,dC,b8,w.Kept⟩
  else
  bif (e.Kind==7) then
   oZ n ⟨xm,w.Fs.Device⟩ fun Nl =>
   let fj:=(([])++dC)
   aK (bg fj) <|
   let yY:=(([])++w.jl)
   aK (bg yY) <|
   let TE:=(yY++([r]))
   aK (bg TE) <|
   k0 ⟨Nl,dC,TE,fj⟩
  else
  bif (e.Kind==8) then
   nX n w.Fs.Device fun d m8 =>
   tT n d fun z0 =>
   kE n z0 fun Yi rQ =>
   bif rQ then
   tA n Yi fun Zp D1 =>
   oD n Zp.Mem.aa fun uw =>
   let TX:=(([])++uw)
   aK (bg TX) <|
   let TB:=(([])++w.jl)
   aK (bg TB) <|
   let TD:=(TB++([r]))
   aK (bg TD) <|
   k0 ⟨Zp,uw,TD,TX⟩
   else
   oD n xm.aa fun FE =>
   let Tm:=(([])++FE)
   aK (bg Tm) <|
   let TQ:=(([])++w.jl)
   aK (bg TQ) <|
   let P6:=(TQ++([r]))
   aK (bg P6) <|
   k0 ⟨⟨xm,w.Fs.Device⟩,FE,P6,Tm⟩
  else
  let P1:=(([])++w.jl)
  aK (bg P1) <|
  let Qz:=(P1++([r]))
  aK (bg Qz) <|
  k0 ⟨⟨xm,w.Fs.Device⟩,dC,Qz,w.Kept⟩
  else
  bif (e.Kind==6) then
  g8 n ⟨xm,w.Fs.Device⟩ e.At fun f_3 Ng =>
  let P0:=(([])++w.jl)
  aK (bg P0) <|
  let PA:=(P0++([r]))
  aK (bg PA) <|
  k0 ⟨f_3,w.Model,PA,w.Kept⟩
  else
  bif (e.Kind==7) then
  oZ n ⟨xm,w.Fs.Device⟩ fun f_4 =>
  let PI:=(([])++w.Model)
  aK (bg PI) <|
  let Qi:=(([])++w.jl)
  aK (bg Qi) <|
  let PW:=(Qi++([r]))
  aK (bg PW) <|
  k0 ⟨f_4,w.Model,PW,PI⟩
  else
  bif (e.Kind==8) then
  nX n w.Fs.Device fun d_3 m9 =>
  tT n d_3 fun d_4 =>
  kE n d_4 fun d_5 CS =>
  bif CS then
   tA n d_5 fun f_5 M1 =>
   oD n f_5.Mem.aa fun Jx =>
   let Qb:=(([])++Jx)
   aK (bg Qb) <|
   let PE:=(([])++w.jl)
   aK (bg PE) <|
   let Qh:=(PE++([r]))
   aK (bg Qh) <|
   k0 ⟨f_5,Jx,Qh,Qb⟩
  else
  oD n xm.aa fun MQ =>
  let P5:=(([])++MQ)
  aK (bg P5) <|
  let Qo:=(([])++w.jl)
  aK (bg Qo) <|
  let P8:=(Qo++([r]))
  aK (bg P8) <|
  k0 ⟨⟨xm,w.Fs.Device⟩,MQ,P8,P5⟩
  else
  let PF:=(([])++w.jl)
  aK (bg PF) <|
  let PY:=(PF++([r]))
  aK (bg PY) <|
  k0 ⟨⟨xm,w.Fs.Device⟩,w.Model,PY,w.Kept⟩
 else
 bif (e.Kind==6) then
  g8 n w.Fs e.At fun f_6 SJ =>
  let Ql:=(([])++w.jl)
  aK (bg Ql) <|
  let PX:=(Ql++([r]))
  aK (bg PX) <|
  k0 ⟨f_6,w.Model,PX,w.Kept⟩
 else
 bif (e.Kind==7) then
  oZ n w.Fs fun f_7 =>
  let P4:=(([])++w.Model)
  aK (bg P4) <|
  let PQ:=(([])++w.jl)
  aK (bg PQ) <|
  let PC:=(PQ++([r]))
  aK (bg PC) <|
  k0 ⟨f_7,w.Model,PC,P4⟩
 else
 bif (e.Kind==8) then
  nX n w.Fs.Device fun d_6 SR =>
  tT n d_6 fun d_7 =>
  kE n d_7 fun d_8 JE =>
  bif JE then
  tA n d_8 fun f_8 XQ =>
  oD n f_8.Mem.aa fun SE =>
  let Qf:=(([])++SE)
  aK (bg Qf) <|
  let Qd:=(([])++w.jl)
  aK (bg Qd) <|
  let Qy:=(Qd++([r]))
  aK (bg Qy) <|
  k0 ⟨f_8,SE,Qy,Qf⟩
  else
  oD n w.Fs.Mem.aa fun P9 =>
  let Qv:=(([])++P9)
  aK (bg Qv) <|
  let PS:=(([])++w.jl)
  aK (bg PS) <|
  let P3:=(PS++([r]))
  aK (bg P3) <|
  k0 ⟨w.Fs,P9,P3,Qv⟩
 else
 let PU:=(([])++w.jl)
 aK (bg PU) <|
 let Qx:=(PU++([r]))
 aK (bg Qx) <|
 k0 ⟨w.Fs,w.Model,Qx,w.Kept⟩
def lR (n:Nat) (b:List UInt8) (q0:Int->Int->Int->(List Bool)->(List Bool)->(List aX)->(List Block)->(List Bool)->(List bE)->(List ByteArray)->(List Node)->(List Int)->(List Node)->Option R):Nat->Int->Int->Int->Int->(List Bool)->(List Bool)->(List aX)->(List Block)->(List Bool)->(List bE)->(List ByteArray)->(List Node)->(List Int)->(List Node)->Option R
 | 0,_,_,_,_,_,_,_,_,_,_,_,_,_,_=>none
 | m+1,i,mU,xh,eR,pT,dD,oW,iD,fT,zi,r7,Jl,HF,vM =>
  aF 24 ⟨b,mU,xh⟩ fun r lo =>
  bif (decide (i<(aC (4+r)))) then
  ei n ⟨⟨⟨⟨⟨pT,dD⟩,oW,iD⟩,fT,zi,eR⟩,⟨r7⟩⟩,Jl,HF,vM⟩ ⟨b,lo.i,lo.h⟩ fun e bK =>
  tS n e ⟨⟨⟨⟨⟨pT,dD⟩,oW,iD⟩,fT,zi,eR⟩,⟨r7⟩⟩,Jl,HF,vM⟩ fun wo =>
  lR n b q0 m (aC (i+1)) bK.i bK.h wo.Fs.Mem.Next wo.Fs.Mem.aa.aq.ab wo.Fs.Mem.aa.aq.bD wo.Fs.Mem.aa.ad wo.Fs.Mem.aa.ab wo.Fs.Mem.ak wo.Fs.Mem.ae wo.Fs.Device.cq wo.Model wo.jl wo.Kept
  else
  q0 lo.i lo.h eR pT dD oW iD fT zi r7 Jl HF vM
def v9 (n:Nat) (c:dP) (k0:Fs->dP->Option R):Option R :=
 zp n fun f =>
 lR n c.b (fun i xh v eR dE fV jc lK gY pV yW pT dD =>
  k0 ⟨⟨⟨⟨eR,dE⟩,fV,jc⟩,lK,gY,v⟩,⟨pV⟩⟩ ⟨c.b,i,xh⟩) n 0 c.i c.h f.Mem.Next f.Mem.aa.aq.ab f.Mem.aa.aq.bD f.Mem.aa.ad f.Mem.aa.ab f.Mem.ak f.Mem.ae f.Device.cq ([]) ([]) ([])
def vW (n:Nat) (c:dP) (k0:Mem->dP->Option R):Option R :=
 v9 n c fun f lo =>
 k0 f.Mem ⟨c.b,lo.i,lo.h⟩
def l6 (c:dP) (k0:aX->dP->Option R):Option R :=
 let lit:=([0,1,2]:List Int)
 cM lit c fun r lo =>
 dX r fun i =>
 bif (!(i.Kind==0)) then
  aF 4 ⟨c.b,lo.i,lo.h⟩ fun c8 bK =>
  aF 17 ⟨c.b,bK.i,bK.h⟩ fun dC bJ =>
  aK (bc 0 i.ax.length) <|
  let row:=(i.ax.set 0 dC)
  aF 17 ⟨c.b,bJ.i,bJ.h⟩ fun j0 jZ =>
  let xg:=([0,0,j0]:List Int)
  cM xg ⟨c.b,jZ.i,jZ.h⟩ fun m8 oX =>
  aK (bc 1 row.length) <|
  let b8:=(row.set 1 m8)
  k0 ⟨i.Kind,c8,b8⟩ ⟨c.b,oX.i,oX.h⟩
 else
 k0 i ⟨c.b,lo.i,lo.h⟩
def iv (xn:Int) (b:List UInt8) (q0:Int->Int->(List UInt8)->Option R):Nat->Int->Int->Int->(List UInt8)->Option R
 | 0,_,_,_,_=>none
 | m+1,i,mU,xh,out =>
  bif (decide (i<xn)) then
  iN ⟨b,mU,xh⟩ fun r lo =>
  aK (kg (IntKind.u8.wrap (r))&&true) <|
  let row:=(out++([(UInt8.ofNat ((IntKind.u8.wrap (r)).toNat))]))
  aK (bg row) <|
  iv xn b q0 m (aC (i+1)) lo.i lo.h row
  else
  q0 mU xh out
def qa (n:Nat) (xn:Int) (c:dP) (k0:ByteArray->dP->Option R):Option R :=
 bif (decide (5000<xn)) then
  iv 5000 c.b (fun i xh out =>
  k0 (yT out) ⟨c.b,i,xh⟩) n 0 c.i c.h ([])
 else
 iv xn c.b (fun mU PL B7 =>
  k0 (yT B7) ⟨c.b,mU,PL⟩) n 0 c.i c.h ([])
def dT (n:Nat) (dE:Bool) (fV:ByteArray) (b:List UInt8) (q0:Int->Int->(List Slot)->Option R):Nat->Int->Int->Int->(List Slot)->Option R
 | 0,_,_,_,_=>none
 | m+1,i,mU,xh,lK =>
  bif (decide (i<4)) then
  pW ⟨b,mU,xh⟩ fun r lo =>
  aF 8 ⟨b,lo.i,lo.h⟩ fun c8 bK =>
  p7 n ⟨dE,lK,fV⟩ r fun dC =>
  cd 2 ⟨b,bK.i,bK.h⟩ fun j0 bJ =>
  let z:=bif (decide (dC<0)) then j0 else false
  let vL:=bif (decide (dC<0)) then bJ.i else bK.i
  let yZ:=bif (decide (dC<0)) then bJ.h else bK.h
  bif (decide (dC<0))&&z then
   aK (bc i lK.length) <|
   let row:=(lK.set i.toNat ⟨r,(aC (1+c8))⟩)
   dT n dE fV b q0 m (aC (i+1)) vL yZ row
  else
  dT n dE fV b q0 m (aC (i+1)) vL yZ lK
  else
  q0 mU xh lK
def lL (n:Nat) (c:dP) (k0:Block->dP->Option R):Option R :=
 cd 2 c fun r lo =>
 bif r then
  aF 17 ⟨c.b,lo.i,lo.h⟩ fun c8 bK =>
  qa n c8 ⟨c.b,bK.i,bK.h⟩ fun dC bJ =>
  k0 ⟨false,[],dC⟩ ⟨c.b,bJ.i,bJ.h⟩
 else
 td fun b =>
 dT n b.cp b.Text c.b (fun i xh v =>
  k0 ⟨b.cp,v,b.Text⟩ ⟨c.b,i,xh⟩) n 0 lo.i lo.h b.an
def ft (b:List UInt8) (q0:Int->Int->(List aX)->Option R):Nat->Int->Int->Int->(List aX)->Option R
 | 0,_,_,_,_=>none
 | m+1,i,mU,xh,gY =>
  bif (decide (i<8)) then
  cd 2 ⟨b,mU,xh⟩ fun r lo =>
  bif r then
   l6 ⟨b,lo.i,lo.h⟩ fun M0 bK =>
   aK (bc i gY.length) <|
   let row:=(gY.set i.toNat M0)
   ft b q0 m (aC (i+1)) bK.i bK.h row
  else
  ft b q0 m (aC (i+1)) lo.i lo.h gY
  else
  q0 mU xh gY
def fB (n:Nat) (b:List UInt8) (q0:Int->Int->(List Block)->Option R):Nat->Int->Int->Int->(List Block)->Option R
 | 0,_,_,_,_=>none
 | m+1,i,mU,xh,pV =>
  bif (decide (i<16)) then
  cd 2 ⟨b,mU,xh⟩ fun r lo =>
  bif r then
   lL n ⟨b,lo.i,lo.h⟩ fun xf bK =>
   aK (bc i pV.length) <|
   let row:=(pV.set i.toNat xf)
   fB n b q0 m (aC (i+1)) bK.i bK.h row
  else
  fB n b q0 m (aC (i+1)) lo.i lo.h pV
  else
  q0 mU xh pV
def gJ (b:List UInt8) (q0:Int->Int->(List Bool)->Option R):Nat->Int->Int->Int->(List Bool)->Option R
 | 0,_,_,_,_=>none
 | m+1,i,mU,xh,jc =>
  bif (decide (i<16)) then
  cd 2 ⟨b,mU,xh⟩ fun r lo =>
  aK (bc i jc.length) <|
  let row:=(jc.set i.toNat r)
  gJ b q0 m (aC (i+1)) lo.i lo.h row
  else
  q0 mU xh jc
def gD (b:List UInt8) (gY:List aX) (q0:Int->Int->(List Block)->Option R):Nat->Int->Int->Int->(List Block)->Option R
 | 0,_,_,_,_=>none
 | m+1,i,mU,xh,pV =>
  bif (decide (i<4)) then
  aK (bc 0 gY.length) <|
  aK (bc 0 (((gY.getD 0 ay).ax).length)) <|
  aK (bc (aC ((((gY.getD 0 ay).ax).getD 0 0)-1)) pV.length) <|
  let lit:=([S [112],S [113],S [114],S [115]]:List ByteArray)
  aK (bc i lit.length) <|
  aF 8 ⟨b,mU,xh⟩ fun r lo =>
  aK (bc i (((pV.getD ((aC ((((gY.getD 0 ay).ax).getD 0 0)-1)).toNat) aA).an).length)) <|
  let row:=(pV.set ((aC ((((gY.getD 0 ay).ax).getD 0 0)-1)).toNat) ⟨(pV.getD ((aC ((((gY.getD 0 ay).ax).getD 0 0)-1)).toNat) aA).cp,(((pV.getD ((aC ((((gY.getD 0 ay).ax).getD 0 0)-1)).toNat) aA).an).set i.toNat ⟨(lit.getD i.toNat eS),(aC (1+r))⟩),(pV.getD ((aC ((((gY.getD 0 ay).ax).getD 0 0)-1)).toNat) aA).Text⟩)
  gD b gY q0 m (aC (i+1)) lo.i lo.h row
  else
  q0 mU xh pV
def qj (n:Nat) (c:dP) (k0:aa->dP->Option R):Option R :=
 nN n fun d =>
 ft c.b (fun i xh v =>
  fB n c.b (fun mU PL eR =>
  gJ c.b (fun M0 abR dE =>
   cd 6 ⟨c.b,M0,abR⟩ fun r lo =>
   bif !r then
   aF 16 ⟨c.b,lo.i,lo.h⟩ fun c8 bK =>
   aF 17 ⟨c.b,bK.i,bK.h⟩ fun dC bJ =>
   let lit:=([(aC (1+c8)),dC]:List Int)
   aK (bc 0 v.length) <|
   let row:=(v.set 0 ⟨2,1,lit⟩)
   aK (bc 0 row.length) <|
   aK (bc 0 (((row.getD 0 ay).ax).length)) <|
   td fun b =>
   aK (bc (aC ((((row.getD 0 ay).ax).getD 0 0)-1)) eR.length) <|
   let b8:=(eR.set ((aC ((((row.getD 0 ay).ax).getD 0 0)-1)).toNat) b)
   gD c.b row (fun i_3 abD fV =>
    k0 ⟨⟨dE,d.aq.bD⟩,row,fV⟩ ⟨c.b,i_3,abD⟩) n 0 bJ.i bJ.h b8
   else
   k0 ⟨⟨dE,d.aq.bD⟩,v,eR⟩ ⟨c.b,lo.i,lo.h⟩) n 0 mU PL d.aq.ab) n 0 i xh d.ab) n 0 c.i c.h d.ad
def nM (n:Nat) (c:dP) (k0:aa->dP->Option R):Option R :=
 cd 3 c fun r lo =>
 bif r then
  qj n ⟨c.b,lo.i,lo.h⟩ fun d bK =>
  k0 d ⟨c.b,bK.i,bK.h⟩
 else
 v9 n ⟨c.b,lo.i,lo.h⟩ fun f bJ =>
 cd 2 ⟨c.b,bJ.i,bJ.h⟩ fun c8 jZ =>
 bif c8 then
  jS n f.Mem.aa fun z0 =>
  k0 z0 ⟨c.b,jZ.i,jZ.h⟩
 else
 nX n f.Device fun Yi dC =>
 k0 Yi ⟨c.b,jZ.i,jZ.h⟩
def im (b:List UInt8) (q0:Int->Int->(List Bool)->Option R):Nat->Int->Int->Int->(List Bool)->Option R
 | 0,_,_,_,_=>none
 | m+1,i,mU,xh,dE =>
  bif (decide (i<(dE.length:Int))) then
  cd 2 ⟨b,mU,xh⟩ fun r lo =>
  aK (bc i dE.length) <|
  let row:=(dE.set i.toNat r)
  im b q0 m (aC (i+1)) lo.i lo.h row
  else
  q0 mU xh dE
def ib (b:List UInt8) (q0:Int->Int->(List Bool)->Option R):Nat->Int->Int->Int->(List Bool)->Option R
 | 0,_,_,_,_=>none
 | m+1,i,mU,xh,fV =>
  bif (decide (i<(fV.length:Int))) then
  cd 2 ⟨b,mU,xh⟩ fun r lo =>
  aK (bc i fV.length) <|
  let row:=(fV.set i.toNat r)
  ib b q0 m (aC (i+1)) lo.i lo.h row
  else
  q0 mU xh fV
def ua (n:Nat) (c:dP) (k0:aq->dP->Option R):Option R :=
 lU fun b =>
 im c.b (fun i xh v =>
  ib c.b (fun mU PL eR =>
  cd 10 ⟨c.b,mU,PL⟩ fun r lo =>
  bif r then
   aK (qd 1 v.length) <|
   cd 10 ⟨c.b,lo.i,lo.h⟩ fun c8 bK =>
   bif c8 then
   let row:=(eR++([true]))
   aK (bg row) <|
   k0 ⟨(sub v 1 (v.length-1)),row⟩ ⟨c.b,bK.i,bK.h⟩
   else
   k0 ⟨(sub v 1 (v.length-1)),eR⟩ ⟨c.b,bK.i,bK.h⟩
  else
  cd 10 ⟨c.b,lo.i,lo.h⟩ fun dC bJ =>
  bif dC then
   let b8:=(eR++([true]))
   aK (bg b8) <|
   k0 ⟨v,b8⟩ ⟨c.b,bJ.i,bJ.h⟩
  else
  k0 ⟨v,eR⟩ ⟨c.b,bJ.i,bJ.h⟩) n 0 i xh b.bD) n 0 c.i c.h b.ab
def mw (c:dP) (k0:aX->dP->Option R):Option R :=
 l6 c fun i lo =>
 aF 12 ⟨c.b,lo.i,lo.h⟩ fun r bK =>
 bif (r==0) then
  let lit:=([-1,0,3]:List Int)
  cM lit ⟨c.b,bK.i,bK.h⟩ fun c8 bJ =>
  k0 ⟨c8,i.Links,i.ax⟩ ⟨c.b,bJ.i,bJ.h⟩
 else
 bif (r==1) then
  let xg:=([-1,0,200,201]:List Int)
  cM xg ⟨c.b,bK.i,bK.h⟩ fun dC jZ =>
  k0 ⟨i.Kind,dC,i.ax⟩ ⟨c.b,jZ.i,jZ.h⟩
 else
 bif (r==2) then
  let PM:=([-1,16,17]:List Int)
  cM PM ⟨c.b,bK.i,bK.h⟩ fun j0 oX =>
  aK (bc 0 i.ax.length) <|
  let row:=(i.ax.set 0 j0)
  k0 ⟨i.Kind,i.Links,row⟩ ⟨c.b,oX.i,oX.h⟩
 else
 bif (r==3) then
  aK (qd 1 i.ax.length) <|
  k0 ⟨i.Kind,i.Links,(sub i.ax 1 (i.ax.length-1))⟩ ⟨c.b,bK.i,bK.h⟩
 else
 k0 i ⟨c.b,bK.i,bK.h⟩
def jB (xn:Int) (x:Int) (q0:(List UInt8)->Option R):Nat->Int->(List UInt8)->Option R
 | 0,_,_=>none
 | m+1,i,out =>
  bif (decide (i<xn)) then
  aK (bc i out.length) <|
  let row:=(out.set i.toNat (UInt8.ofNat x.toNat))
  aK (kg x) <|
  jB xn x q0 m (aC (i+1)) row
  else
  q0 out
def uj (n:Nat) (xn:Int) (x:Int) (k0:ByteArray->Option R):Option R :=
 aK (Xm xn xn) <|
 jB xn x (fun out =>
  k0 (yT out)) n 0 (List.replicate xn.toNat 0)
def ku (n:Nat) (c:dP) (k0:Block->dP->Option R):Option R :=
 lL n c fun b lo =>
 lS b fun xf =>
 aF 12 ⟨c.b,lo.i,lo.h⟩ fun r bK =>
 bif (r==0) then
  k0 ⟨!xf.cp,xf.an,xf.Text⟩ ⟨c.b,bK.i,bK.h⟩
 else
 bif (r==1) then
  aF 2 ⟨c.b,bK.i,bK.h⟩ fun c8 bJ =>
  uj n (aC (16+c8)) 65 fun dC =>
  k0 ⟨xf.cp,xf.an,dC⟩ ⟨c.b,bJ.i,bJ.h⟩
 else
 bif (r==2) then
  bif (decide (0<(xf.an.length:Int))) then
  let lit:=([-1,0,8,9]:List Int)
  cM lit ⟨c.b,bK.i,bK.h⟩ fun j0 jZ =>
  aK (bc 1 xf.an.length) <|
  let row:=(xf.an.set 1 ⟨(xf.an.getD 1 au).Name,j0⟩)
  k0 ⟨xf.cp,row,xf.Text⟩ ⟨c.b,jZ.i,jZ.h⟩
  else
  k0 xf ⟨c.b,bK.i,bK.h⟩
 else
 bif (r==3) then
  bif (decide (0<(xf.an.length:Int))) then
  let xg:=([eS,S [65],S [97],S [97,98,99,100,101,102,103]]:List ByteArray)
  fK xg ⟨c.b,bK.i,bK.h⟩ fun m8 oX =>
  aK (bc 0 xf.an.length) <|
  let b8:=(xf.an.set 0 ⟨m8,(xf.an.getD 0 au).Ino⟩)
  k0 ⟨xf.cp,b8,xf.Text⟩ ⟨c.b,oX.i,oX.h⟩
  else
  k0 xf ⟨c.b,bK.i,bK.h⟩
 else
 k0 xf ⟨c.b,bK.i,bK.h⟩
def mN (n:Nat) (c:dP) (k0:aa->dP->Option R):Option R :=
 nM n c fun d lo =>
 jS n d fun z0 =>
 aF 12 ⟨c.b,lo.i,lo.h⟩ fun r bK =>
 bif (r==0) then
  ua n ⟨c.b,bK.i,bK.h⟩ fun b bJ =>
  k0 ⟨b,z0.ad,z0.ab⟩ ⟨c.b,bJ.i,bJ.h⟩
 else
 bif (r==1) then
  aF 8 ⟨c.b,bK.i,bK.h⟩ fun c8 jZ =>
  mw ⟨c.b,jZ.i,jZ.h⟩ fun i oX =>
  aK (bc c8 z0.ad.length) <|
  let row:=(z0.ad.set c8.toNat i)
  k0 ⟨z0.aq,row,z0.ab⟩ ⟨c.b,oX.i,oX.h⟩
 else
 bif (r==2) then
  aF 16 ⟨c.b,bK.i,bK.h⟩ fun dC HA =>
  ku n ⟨c.b,HA.i,HA.h⟩ fun xf Hy =>
  aK (bc dC z0.ab.length) <|
  let b8:=(z0.ab.set dC.toNat xf)
  k0 ⟨z0.aq,z0.ad,b8⟩ ⟨c.b,Hy.i,Hy.h⟩
 else
 bif (r==3) then
  aK (qd 1 z0.ad.length) <|
  k0 ⟨z0.aq,(sub z0.ad 1 (z0.ad.length-1)),z0.ab⟩ ⟨c.b,bK.i,bK.h⟩
 else
 k0 z0 ⟨c.b,bK.i,bK.h⟩
def iz (n:Nat) (c:dP) (k0:Mem->dP->Option R):Option R :=
 vW n c fun xm lo =>
 dv n xm fun aZ =>
 aF 16 ⟨c.b,lo.i,lo.h⟩ fun r bK =>
 bif (r==0) then
  mN n ⟨c.b,bK.i,bK.h⟩ fun d bJ =>
  k0 ⟨d,aZ.ak,aZ.ae,aZ.Next⟩ ⟨c.b,bJ.i,bJ.h⟩
 else
 bif (r==1) then
  aK (qd 1 aZ.ak.length) <|
  k0 ⟨aZ.aa,(sub aZ.ak 1 (aZ.ak.length-1)),aZ.ae,aZ.Next⟩ ⟨c.b,bK.i,bK.h⟩
 else
 bif (r==2) then
  let lit:=([0,1,100000,100001]:List Int)
  cM lit ⟨c.b,bK.i,bK.h⟩ fun c8 jZ =>
  k0 ⟨aZ.aa,aZ.ak,aZ.ae,c8⟩ ⟨c.b,jZ.i,jZ.h⟩
 else
 bif (r==3) then
  bif (decide (0<(aZ.ae.length:Int))) then
  aF (aZ.ae.length:Int) ⟨c.b,bK.i,bK.h⟩ fun dC oX =>
  aF 7 ⟨c.b,oX.i,oX.h⟩ fun j0 HA =>
  aK (bc dC aZ.ae.length) <|
  let row:=(aZ.ae.set dC.toNat ⟨(aZ.ae.getD dC.toNat aH).Id,j0,(aZ.ae.getD dC.toNat aH).Ino,(aZ.ae.getD dC.toNat aH).Ptr,(aZ.ae.getD dC.toNat aH).Block,(aZ.ae.getD dC.toNat aH).Slot,(aZ.ae.getD dC.toNat aH).Name,(aZ.ae.getD dC.toNat aH).aq,(aZ.ae.getD dC.toNat aH).et,(aZ.ae.getD dC.toNat aH).bz,(aZ.ae.getD dC.toNat aH).ab⟩)
  let xg:=([-1,0,3,16,17]:List Int)
  cM xg ⟨c.b,HA.i,HA.h⟩ fun m8 Hy =>
  aK (bc dC row.length) <|
  let b8:=(row.set dC.toNat ⟨(row.getD dC.toNat aH).Id,(row.getD dC.toNat aH).Kind,(row.getD dC.toNat aH).Ino,(row.getD dC.toNat aH).Ptr,m8,(row.getD dC.toNat aH).Slot,(row.getD dC.toNat aH).Name,(row.getD dC.toNat aH).aq,(row.getD dC.toNat aH).et,(row.getD dC.toNat aH).bz,(row.getD dC.toNat aH).ab⟩)
  k0 ⟨aZ.aa,aZ.ak,b8,aZ.Next⟩ ⟨c.b,Hy.i,Hy.h⟩
  else
  k0 aZ ⟨c.b,bK.i,bK.h⟩
 else
 bif (r==4) then
  bif (decide (0<(aZ.ae.length:Int))) then
  aK (bc 0 aZ.ae.length) <|
  let el:=(aZ.ae.getD 0 aH)
  let fj:=(aZ.ae++([el]))
  aK (bg fj) <|
  k0 ⟨aZ.aa,aZ.ak,fj,aZ.Next⟩ ⟨c.b,bK.i,bK.h⟩
  else
  k0 aZ ⟨c.b,bK.i,bK.h⟩
 else
 k0 aZ ⟨c.b,bK.i,bK.h⟩
def iu (xn:Int) (c:dP) (k0:Int->dP->Option R):Option R :=
 cd 15 c fun r lo =>
 bif r then
  let lit:=([-1,xn,(aC (xn+1)),9223372036854775807,-9223372036854775808]:List Int)
  cM lit ⟨c.b,lo.i,lo.h⟩ fun c8 bK =>
  k0 c8 ⟨c.b,bK.i,bK.h⟩
 else
 aF xn ⟨c.b,lo.i,lo.h⟩ fun dC bJ =>
 k0 dC ⟨c.b,bJ.i,bJ.h⟩
def k6 (n:Nat) (code:List UInt8) (k0:Mem->Int->Int->Option R):Option R :=
 sQ n code fun l =>
 iz n l fun xm lo =>
 cd 4 ⟨l.b,lo.i,lo.h⟩ fun r bK =>
 let z:=bif (decide (0<(xm.ae.length:Int))) then r else false
 let vL:=bif (decide (0<(xm.ae.length:Int))) then bK.i else lo.i
 let yZ:=bif (decide (0<(xm.ae.length:Int))) then bK.h else lo.h
 bif (decide (0<(xm.ae.length:Int)))&&(!z) then
  aF (xm.ae.length:Int) ⟨l.b,vL,yZ⟩ fun c8 bJ =>
  aK (bc c8 xm.ae.length) <|
  let el:=(xm.ae.getD c8.toNat aH)
  k0 xm el.Block el.Slot
 else
 iu 16 ⟨l.b,vL,yZ⟩ fun dC jZ =>
 iu 4 ⟨l.b,jZ.i,jZ.h⟩ fun j0 oX =>
 k0 xm dC j0
def sJ (d:bE) (k0:Bool->Option R):Option R :=
 k0 ((d.Kind==2)||(d.Kind==3))
def gX (block:Int) (slot:Int) (x:Int) (Ci:List bE) (q0:Bool->Int->Int->Int->Int->Int->Int->ByteArray->Bool->Bool->Int->(List Int)->Option R) (q1:Option R):Nat->Int->Option R
 | 0,_=>none
 | m+1,kD =>
  bif (decide (kD<x)) then
  aK (bc kD Ci.length) <|
  let el:=(Ci.getD kD.toNat aH)
  sJ ⟨el.Id,el.Kind,el.Ino,el.Ptr,el.Block,el.Slot,el.Name,el.aq,el.et,el.bz,[]⟩ fun r =>
  bif ((r||(el.Kind==4))&&(el.Block==block))&&(el.Slot==slot) then
   q0 true el.Id el.Kind el.Ino el.Ptr el.Block el.Slot el.Name el.aq el.et el.bz ((Ci.getD kD.toNat aH).ab)
  else
  gX block slot x Ci q0 q1 m (aC (kD+1))
  else
  q1
def o8 (n:Nat) (xm:Mem) (block:Int) (slot:Int) (k0:bE->Bool->Option R):Option R :=
 gX block slot (xm.ae.length:Int) xm.ae (fun x v eR dE fV jc lK gY pV yW pT dD =>
  k0 ⟨v,eR,dE,fV,jc,lK,gY,pV,yW,pT,[]⟩ x) (
  k0 ⟨0,0,0,0,0,0,eS,false,false,0,[]⟩ false) n 0
def wV (n:Nat) (xm:Mem) (block:Int) (slot:Int) (k0:Int->Option R):Option R :=
 o8 n xm block slot fun d r =>
 k0 d.Id
def iQ (n:Nat) (code:List UInt8) (k0:Mem->Int->Option R):Option R :=
 sQ n code fun l =>
 iz n l fun xm lo =>
 cd 4 ⟨l.b,lo.i,lo.h⟩ fun r bK =>
 let z:=bif (decide (0<(xm.ae.length:Int))) then r else false
 let vL:=bif (decide (0<(xm.ae.length:Int))) then bK.i else lo.i
 let yZ:=bif (decide (0<(xm.ae.length:Int))) then bK.h else lo.h
 bif (decide (0<(xm.ae.length:Int)))&&(!z) then
  aF (xm.ae.length:Int) ⟨l.b,vL,yZ⟩ fun c8 bJ =>
  aK (bc c8 xm.ae.length) <|
  k0 xm ((xm.ae.getD c8.toNat aH).Id)
 else
 iu 9 ⟨l.b,vL,yZ⟩ fun dC jZ =>
 k0 xm dC
def kY (l:List Bool) (k0:(List Bool)->Option R):Option R :=
 let row:=(([])++l)
 aK (bg row) <|
 k0 row
def qJ (b:aq) (k0:aq->Option R):Option R :=
 kY b.ab fun r =>
 kY b.bD fun c8 =>
 k0 ⟨r,c8⟩
def oi (l:List Int) (k0:(List Int)->Option R):Option R :=
 let row:=(([])++l)
 aK (bg row) <|
 k0 row
def pw (x:aX) (k0:aX->Option R):Option R :=
 oi x.ax fun r =>
 k0 ⟨x.Kind,x.Links,r⟩
def pB (b:Block) (k0:Block->Option R):Option R :=
 let row:=(([])++b.an)
 aK (bg row) <|
 k0 ⟨b.cp,row,b.Text⟩
def iI (x:Int) (Ci:List aX) (q0:(List aX)->Option R):Nat->Int->(List aX)->Option R
 | 0,_,_=>none
 | m+1,kD,dD =>
  bif (decide (kD<x)) then
  aK (bc kD Ci.length) <|
  let el:=(Ci.getD kD.toNat ay)
  pw el fun i =>
  let row:=(dD++([i]))
  aK (bg row) <|
  iI x Ci q0 m (aC (kD+1)) row
  else
  q0 dD
def fF (x:Int) (Ci:List Block) (q0:(List Block)->Option R):Nat->Int->(List Block)->Option R
 | 0,_,_=>none
 | m+1,kD,pV =>
  bif (decide (kD<x)) then
  aK (bc kD Ci.length) <|
  let el:=(Ci.getD kD.toNat aA)
  pB el fun b =>
  let row:=(pV++([b]))
  aK (bg row) <|
  fF x Ci q0 m (aC (kD+1)) row
  else
  q0 pV
def qL (n:Nat) (d:aa) (k0:aa->Option R):Option R :=
 qJ d.aq fun b =>
 iI (d.ad.length:Int) d.ad (fun v =>
  fF (d.ab.length:Int) d.ab (fun eR =>
  k0 ⟨b,v,eR⟩) n 0 ([])) n 0 ([])
def ui (d:bE) (k0:bE->Option R):Option R :=
 oi d.ab fun r =>
 k0 ⟨d.Id,d.Kind,d.Ino,d.Ptr,d.Block,d.Slot,d.Name,d.aq,d.et,d.bz,r⟩
def iE (x:Int) (Ci:List bE) (q0:(List bE)->Option R):Nat->Int->(List bE)->Option R
 | 0,_,_=>none
 | m+1,kD,out =>
  bif (decide (kD<x)) then
  aK (bc kD Ci.length) <|
  let el:=(Ci.getD kD.toNat aH)
  ui el fun d =>
  let row:=(out++([d]))
  aK (bg row) <|
  iE x Ci q0 m (aC (kD+1)) row
  else
  q0 out
def rh (n:Nat) (l:List bE) (k0:(List bE)->Option R):Option R :=
 iE (l.length:Int) l (fun out =>
  k0 out) n 0 ([])
def tE (n:Nat) (xm:Mem) (k0:Mem->Option R):Option R :=
 qL n xm.aa fun d =>
 kY xm.ak fun r =>
 rh n xm.ae fun c8 =>
 k0 ⟨d,r,c8,xm.Next⟩
def lr (d:bE) (a:Int) (k0:Bool->Int->Option R):Option R :=
 k0 (d.Id==a) a
def bC (x:Int) (s:List bE) (q0:Int->Int->Option R) (q1:Int->Option R):Nat->Int->Int->Option R
 | 0,_,_=>none
 | m+1,kD,cap =>
  bif (decide (kD<x)) then
  aK (bc kD s.length) <|
  let el:=(s.getD kD.toNat aH)
  lr el cap fun r vo =>
  bif r then
   q0 kD vo
  else
  bC x s q0 q1 m (aC (kD+1)) vo
  else
  q1 cap
def dQ (n:Nat) (s:List bE) (cap:Int) (k0:Int->Int->Option R):Option R :=
 bC (s.length:Int) s (fun x Hw =>
  k0 x Hw) (fun XP =>
  k0 (-1) XP) n 0 cap
def bp (q0:Int->Int->(List bE)->Option R):Nat->Int->Int->Int->(List bE)->Option R
 | 0,_,_,_,_=>none
 | m+1,i,j,cap,s =>
  bif (decide (j<(s.length:Int))) then
  aK (bc j s.length) <|
  let el:=(s.getD j.toNat aH)
  lr el cap fun r vo =>
  bif !r then
   aK (bc i s.length) <|
   let row:=(s.set i.toNat el)
   bp q0 m (aC (i+1)) (aC (j+1)) vo row
  else
  bp q0 m i (aC (j+1)) vo s
  else
  q0 i cap s
def dF (n:Nat) (s:List bE) (cap:Int) (k0:(List bE)->Int->Option R):Option R :=
 dQ n s cap fun r vo =>
 bif (r==(-1)) then
  k0 s vo
 else
 bp (fun i Hw Jr =>
  aK (qd i Jr.length) <|
  let row:=(Jr.take i.toNat++(List.replicate (Jr.length-i.toNat) aH++Jr.drop (i.toNat+(Jr.length-i.toNat))))
  aK (qd i row.length) <|
  k0 (sub row 0 i.toNat) Hw) n r (aC (r+1)) vo s
def rm (n:Nat) (id:Int) (xm:Mem) (k0:Mem->Option R):Option R :=
 dF n xm.ae id fun r vo =>
 k0 ⟨xm.aa,xm.ak,r,xm.Next⟩
def ur (n:Nat) (xm:Mem) (id:Int) (k0:Mem->Option R):Option R :=
 tE n xm fun aZ =>
 rm n id aZ fun mo =>
 k0 ⟨aZ.aa,aZ.ak,mo.ae,mo.Next⟩
def e9 (a:List Bool) (b:List Bool) (q0:Bool->Option R) (q1:Option R):Nat->Int->Option R
 | 0,_=>none
 | m+1,i =>
  bif (decide (i<(a.length:Int))) then
  aK (bc i a.length) <|
  aK (bc i b.length) <|
  bif !((a.getD i.toNat false)==(b.getD i.toNat false)) then
   q0 false
  else
  e9 a b q0 q1 m (aC (i+1))
  else
  q1
def ji (n:Nat) (a:List Bool) (b:List Bool) (k0:Bool->Option R):Option R :=
 bif (!((a.length:Int)==(b.length:Int))) then
  k0 false
 else
 e9 a b (fun x =>
  k0 x) (
  k0 true) n 0
def jI (jc:List Int) (lK:List Int) (q0:Bool->Option R) (q1:Option R):Nat->Int->Option R
 | 0,_=>none
 | m+1,i =>
  bif (decide (i<(jc.length:Int))) then
  aK (bc i jc.length) <|
  aK (bc i lK.length) <|
  bif (!((jc.getD i.toNat 0)==(lK.getD i.toNat 0))) then
   q0 false
  else
  jI jc lK q0 q1 m (aC (i+1))
  else
  q1
def tO (n:Nat) (a:aX) (b:aX) (k0:Bool->Option R):Option R :=
 bif ((!(a.Kind==b.Kind))||(!(a.Links==b.Links)))||(!((a.ax.length:Int)==(b.ax.length:Int))) then
  k0 false
 else
 jI a.ax b.ax (fun x =>
  k0 x) (
  k0 true) n 0
def jN (jc:List Slot) (lK:List Slot) (q0:Bool->Option R) (q1:Option R):Nat->Int->Option R
 | 0,_=>none
 | m+1,i =>
  bif (decide (i<(jc.length:Int))) then
  aK (bc i jc.length) <|
  let el:=(jc.getD i.toNat au)
  aK (bc i lK.length) <|
  let kM:=(lK.getD i.toNat au)
  bif !((el.Name==kM.Name)&&(el.Ino==kM.Ino)) then
   q0 false
  else
  jN jc lK q0 q1 m (aC (i+1))
  else
  q1
def tF (n:Nat) (a:Block) (b:Block) (k0:Bool->Option R):Option R :=
 bif ((!(a.cp==b.cp))||(!(a.Text==b.Text)))||(!((a.an.length:Int)==(b.an.length:Int))) then
  k0 false
 else
 jN a.an b.an (fun x =>
  k0 x) (
  k0 true) n 0
def iJ (n:Nat) (dE:List aX) (gY:List aX) (q0:Bool->Option R) (q1:Option R):Nat->Int->Option R
 | 0,_=>none
 | m+1,i =>
  bif (decide (i<(dE.length:Int))) then
  aK (bc i dE.length) <|
  let el:=(dE.getD i.toNat ay)
  aK (bc i gY.length) <|
  let kM:=(gY.getD i.toNat ay)
  tO n el kM fun r =>
  bif !r then
   q0 false
  else
  iJ n dE gY q0 q1 m (aC (i+1))
  else
  q1
def fG (n:Nat) (fV:List Block) (pV:List Block) (q0:Bool->Option R) (q1:Option R):Nat->Int->Option R
 | 0,_=>none
 | m+1,i =>
  bif (decide (i<(fV.length:Int))) then
  aK (bc i fV.length) <|
  let el:=(fV.getD i.toNat aA)
  aK (bc i pV.length) <|
  let kM:=(pV.getD i.toNat aA)
  tF n el kM fun r =>
  bif !r then
   q0 false
  else
  fG n fV pV q0 q1 m (aC (i+1))
  else
  q1
def qs (n:Nat) (a:aa) (b:aa) (k0:Bool->Option R):Option R :=
 ji n a.aq.ab b.aq.ab fun r =>
 ji n a.aq.bD b.aq.bD fun c8 =>
 let z:=bif !(!r) then c8 else false
 bif (((!r)||(!z))||(!((a.ad.length:Int)==(b.ad.length:Int))))||(!((a.ab.length:Int)==(b.ab.length:Int))) then
  k0 false
 else
 iJ n a.ad b.ad (fun x =>
  k0 x) (
  fG n a.ab b.ab (fun kD =>
  k0 kD) (
  k0 true) n 0) n 0
def iO (a:List Int) (b:List Int) (q0:Bool->Option R) (q1:Option R):Nat->Int->Option R
 | 0,_=>none
 | m+1,i =>
  bif (decide (i<(a.length:Int))) then
  aK (bc i a.length) <|
  aK (bc i b.length) <|
  bif (!((a.getD i.toNat 0)==(b.getD i.toNat 0))) then
   q0 false
  else
  iO a b q0 q1 m (aC (i+1))
  else
  q1
def qT (n:Nat) (a:List Int) (b:List Int) (k0:Bool->Option R):Option R :=
 bif (!((a.length:Int)==(b.length:Int))) then
  k0 false
 else
 iO a b (fun x =>
  k0 x) (
  k0 true) n 0
def jK (gY:List Bool) (iD:List Bool) (q0:Bool->Option R) (q1:Option R):Nat->Int->Option R
 | 0,_=>none
 | m+1,i =>
  bif (decide (i<(gY.length:Int))) then
  aK (bc i gY.length) <|
  aK (bc i iD.length) <|
  bif !((gY.getD i.toNat false)==(iD.getD i.toNat false)) then
   q0 false
  else
  jK gY iD q0 q1 m (aC (i+1))
  else
  q1
def gA (n:Nat) (pV:List bE) (fT:List bE) (q0:Bool->Option R) (q1:Option R):Nat->Int->Option R
 | 0,_=>none
 | m+1,i =>
  bif (decide (i<(pV.length:Int))) then
  aK (bc i pV.length) <|
  let el:=(pV.getD i.toNat aH)
  aK (bc i fT.length) <|
  let kM:=(fT.getD i.toNat aH)
  qT n ((pV.getD i.toNat aH).ab) ((fT.getD i.toNat aH).ab) fun r =>
  let z:=bif !((((((((((!(el.Id==kM.Id))||(!(el.Kind==kM.Kind)))||(!(el.Ino==kM.Ino)))||(!(el.Ptr==kM.Ptr)))||(!(el.Block==kM.Block)))||(!(el.Slot==kM.Slot)))||(!(el.Name==kM.Name)))||(!(el.aq==kM.aq)))||(!(el.et==kM.et)))||(!(el.bz==kM.bz))) then r else false
  bif ((((((((((!(el.Id==kM.Id))||(!(el.Kind==kM.Kind)))||(!(el.Ino==kM.Ino)))||(!(el.Ptr==kM.Ptr)))||(!(el.Block==kM.Block)))||(!(el.Slot==kM.Slot)))||(!(el.Name==kM.Name)))||(!(el.aq==kM.aq)))||(!(el.et==kM.et)))||(!(el.bz==kM.bz)))||(!z) then
   q0 false
  else
  gA n pV fT q0 q1 m (aC (i+1))
  else
  q1
def ug (n:Nat) (a:Mem) (b:Mem) (k0:Bool->Option R):Option R :=
 qs n a.aa b.aa fun r =>
 bif (((!r)||(!(a.Next==b.Next)))||(!((a.ak.length:Int)==(b.ak.length:Int))))||(!((a.ae.length:Int)==(b.ae.length:Int))) then
  k0 false
 else
 jK a.ak b.ak (fun x =>
  k0 x) (
  gA n a.ae b.ae (fun kD =>
  k0 kD) (
  k0 true) n 0) n 0
def gG (drop:Int) (Jn:List bE) (q0:Bool->Option R) (q1:Option R):Nat->Int->Option R
 | 0,_=>none
 | m+1,i =>
  bif (decide (i<(Jn.length:Int))) then
  aK (bc i Jn.length) <|
  bif (((Jn.getD i.toNat aH).Id)==drop) then
   q0 false
  else
  gG drop Jn q0 q1 m (aC (i+1))
  else
  q1
def qP (n:Nat) (code:List UInt8) (k0:Bool->Option R):Option R :=
 Ko code fun r =>
 bif r then
  k0 true
 else
 k6 n code fun xm c8 dC =>
 wV n xm c8 dC fun j0 =>
 iQ n code fun aZ m8 =>
 ur n aZ m8 fun dA =>
 gG m8 dA.ae (fun x =>
  k0 x) (
  qm n xm c8 dC fun rQ =>
  wV n ⟨⟨⟨[],[]⟩,[],[]⟩,[],[],0⟩ c8 dC fun D1 =>
  let z:=bif (j0==rQ) then D1 else 0
  jR n aZ m8 fun mR =>
  let vL:=bif (j0==rQ)&&(z==0) then mR.aa.aq.ab else []
  let yZ:=bif (j0==rQ)&&(z==0) then mR.aa.aq.bD else []
  let PJ:=bif (j0==rQ)&&(z==0) then mR.aa.ad else []
  let Vi:=bif (j0==rQ)&&(z==0) then mR.aa.ab else []
  let Wr:=bif (j0==rQ)&&(z==0) then mR.ak else []
  let YD:=bif (j0==rQ)&&(z==0) then mR.ae else []
  let Wu:=bif (j0==rQ)&&(z==0) then mR.Next else 0
  ug n dA ⟨⟨⟨vL,yZ⟩,PJ,Vi⟩,Wr,YD,Wu⟩ fun uw =>
  let Wk:=bif (j0==rQ)&&(z==0) then uw else false
  k0 ((((j0==rQ)&&(z==0))&&Wk)&&((dA.ak.length:Int)==(aZ.ak.length:Int)))) n 0
instance:LawfulBEq ByteArray where
 eq_of_beq {a b} h:=by
  cases a; cases b
  have h:(_==_)=true:=h
  exact congrArg ByteArray.mk (eq_of_beq (α:=Array UInt8) h)
 rfl {a}:=by cases a; exact beq_self_eq_true (α:=Array UInt8) _
theorem cy {n:Int} (h1: -9223372036854775808<=n) (h2:n<=9223372036854775807):aC n=n:=by
 simp only [aC,IntKind.wrap_i64]; omega
theorem eC {n:Nat} (h:n<=9223372036854775807):aC (n:Int)=n:=cy (by omega) (by omega)
theorem bH {n:Nat} (h:n<=4611686018427387904):aC ((n:Int)+1)=((n+1:Nat):Int):=by rw [cy (by omega) (by omega)]; rfl
theorem aJ (i n:Nat):bc (i:Int) n=decide (i<n):=by
 simp only [bc]
 by_cases h:i<n
 ·simp [h]
 ·simp [h]
theorem br (i n:Nat):decide ((i:Int)<(n:Int))=decide (i<n):=by simp
theorem bf (k:Option R):aK true k=k:=rfl
theorem ai {c:Bool} {k:Option R} (h:c=true):aK c k=k:=by rw [h]; rfl
theorem cn {α:Type} {l:List α} (h:l.length<=1099511627776):bg l=true:=Nat.ble_eq_true_of_le h
theorem iK {a b:ByteArray} (h:a.size+b.size<=4611686018427387904):lV a b=true:=decide_eq_true h
theorem bw {α:Type} (a b:α):(bif true then a else b)=a:=rfl
theorem bh {α:Type} (a b:α):(bif false then a else b)=b:=rfl
theorem O6 {α β:Type} (k:α->β) (c:Bool) (a b:α):(bif c then k a else k b)=k (bif c then a else b):=by cases c<;>rfl
def bn:Nat:=100000000
def cL:Nat:=2097152
theorem mA {L:Nat->Int->Option R} {len B:Nat} {p:Nat->Bool} {e q:Option R} (hl:len<=4611686018427387904)
  (hs:∀ m i,B<m->i<len->L (m+1) (i:Int)=bif p i then L m (aC ((i:Int)+1)) else e) (hq:∀ m,L (m+1) (len:Int)=q) :
  ∀ (k m i:Nat),i+k=len->k+B<m->L m (i:Int)=bif (List.range' i k).all p then q else e
 | 0,0,i,h1,h2=>by omega
 | 0,m+1,i,h1,h2=>by
  have:i=len:=by omega
  subst this; rw [hq]; rfl
 | k+1,0,i,h1,h2=>by omega
 | k+1,m+1,i,h1,h2=>by
  rw [hs m i (by omega) (by omega),bH (by omega),List.range'_succ,List.all_cons]
  cases hp:p i with
  | false=>rfl
  | true=>rw [mA hl hs hq k m (i+1) (by omega) (by omega)]; rfl
theorem C7 {α:Type} (l:List α) (d:α) (P:α->Bool):(List.range' 0 l.length).all (fun i=>P (l.getD i d))=l.all P:=by
 have h:(List.range' 0 l.length).map (fun i=>l.getD i d)=l:=by
  apply List.ext_getElem
  ·simp
  ·intro i h1 h2; simp at h2 ⊢; simp [h2]
 conv=>rhs; rw [← h,List.all_map]
 rfl
def within (x a b:Int):Bool:=decide (a<=x)&&decide (x<=b)
theorem iZ (x a b:Int) (k:Bool->Option R):cj x a b k=k (within x a b):=rfl
def ba (kind:Int):aX:=⟨kind,bif kind==0 then 0 else 1,[0,0]⟩
theorem jv (kind:Int) (k:aX->Option R):dX kind k=k (ba kind):=by
 simp only [dX,ba]; cases kind==0<;>rfl
def bx (x:aX):Bool:=within x.Kind 0 2&&(within x.Links 0 200&&(x.ax.length==2&&(x.ax.all (fun p=>within p 0 16&&(x.Kind != 0||p==0))&&(x.Kind != 0||x.Links==0))))
theorem ve {n:Nat} (hn:bn<=n) (x:aX) (k:Bool->Option R):nQ n x k=k (bx x):=by
 simp only [nQ,iZ,bx]
 cases within x.Kind 0 2 with
 | false=>rfl
 | true =>
  cases within x.Links 0 200 with
  | false=>rfl
  | true =>
   simp only [zM,zN,zE,Bool.false_or,Bool.true_and]
   by_cases hp:x.ax.length=2
   ·have yp:(x.ax.length:Int)==2:=by simp [hp]
    rw [yp,hp]
    have:=mA (R:=R) (L:=jW x.Kind x.ax (fun kD=>k kD) (k ((!(x.Kind==0))||(x.Links==0)))) (len:=2) (B:=0) (p:=fun i=>within (x.ax.getD i 0) 0 16&&(x.Kind != 0||x.ax.getD i 0==0))
     (e:=k false) (q:=k ((!(x.Kind==0))||(x.Links==0))) (by omega) (fun m i _ hi=>by
      simp only [jW,iZ,aJ,hp,zC]
      rw [show decide ((i:Int)<2)=true by simp; omega,show decide (i<2)=true by simp; omega]
      simp only [zE,bf,Bool.or_true,bne]
      cases within (x.ax.getD i 0) 0 16<;>cases x.Kind==0<;>cases x.ax.getD i 0==0<;>rfl) (fun m=>by simp [jW]) 2 n 0 rfl (by simp only [bn] at hn; omega)
    simp only [zM,zF]
    refine this.trans ?_
    rw [← hp,C7 x.ax 0 (fun p=>within p 0 16&&(x.Kind != 0||p==0))]
    simp only [beq_self_eq_true,Bool.true_and,bne]
    rw [O6]; congr 1
    cases List.all x.ax _<;>rfl
   ·have yp:((x.ax.length:Int)==2)=false:=by simp; omega
    have M5:(x.ax.length==2)=false:=by simpa using hp
    rw [yp,M5]; rfl
def uq (c:dP):Prop:=0<=c.i/\c.b.length<=cL
def Cn (c c':dP):Prop:=uq c'/\c'.b=c.b
theorem Cn.mk' {c c':dP} (h:Cn c c'):(⟨c.b,c'.i,c'.h⟩:dP)=c':=by obtain ⟨_,h⟩:=h; cases c'; simp only at h; subst h; rfl
theorem Cn.tr {a b c:dP} (h:Cn a b) (h':Cn b c):Cn a c:=⟨h'.1,h'.2.trans h.2⟩
theorem Fj (a:Int):0<=BC .i64 a 255/\BC .i64 a 255<=255:=by
 have h:(BitVec.ofInt IntKind.i64.bits a &&& BitVec.ofInt IntKind.i64.bits 255).toNat<=255:=by
  rw [BitVec.toNat_and]
  exact Nat.le_trans Nat.and_le_right (by decide)
 simp only [BC,IntKind.wrap_i64]
 omega
def KJ (c:dP):Int:=aC ((aC (c.h*6364136223846793005))+1442695040888963407)
def WH (c:dP):Int:=Uw .i64 (L9 .i64 (KJ c) 33) (L9 .i64 (KJ c) 45)
theorem nE (c:dP) (hc:uq c):∃ x c',0<=x/\x<=255/\Cn c c'/\∀ k:Int->dP->Option R,iN c k=k x c':=by
 obtain ⟨h1,h2⟩:=hc
 have Js:c.b.length<=2097152:=h2
 by_cases h:c.i<(c.b.length:Int)
 ·refine ⟨BC .i64 (aC (BC .i64 (WH c) 255+aC ((c.b.getD c.i.toNat 0).toNat:Int))) 255,⟨c.b,aC (c.i+1),KJ c⟩,(Fj _).1,(Fj _).2,⟨⟨?_,h2⟩,rfl⟩,fun k=> ?_⟩
  ·show 0<=aC (c.i+1)
   rw [cy (by omega) (by omega)]; omega
  ·simp only [iN]
   rw [decide_eq_true h,bw,ai]
   ·rfl
   ·simp only [bc,zB,zD]; omega
 ·refine ⟨BC .i64 (WH c) 255,⟨c.b,c.i,KJ c⟩,(Fj _).1,(Fj _).2,⟨⟨h1,h2⟩,rfl⟩,fun k=> ?_⟩
  simp only [iN]
  rw [decide_eq_false h,bh]
  rfl
theorem bu (n:Int) (hn:0<n) (h2:n<=4611686018427387904) (c:dP) (hc:uq c):∃ x c',0<=x/\x<n/\Cn c c'/\∀ k:Int->dP->Option R,aF n c k=k x c':=by
 by_cases h:n<=256
 ·obtain ⟨x,c',x1,x2,lD,e⟩:=nE (R:=R) c hc
  refine ⟨x.tmod n,c',Int.tmod_nonneg _ x1,?_,lD,fun k=> ?_⟩
  ·exact Int.tmod_lt_of_pos _ hn
  ·simp only [aF]
   rw [decide_eq_false (by omega),bh,decide_eq_true h,bw,e,lD.mk',ai]
   simp; omega
 ·obtain ⟨x1,c1,_,_,bQ,e1⟩:=nE (R:=R) c hc
  obtain ⟨x2,c2,_,_,eL,e2⟩:=nE (R:=R) c1 bQ.1
  obtain ⟨x3,c3,_,_,hY,e3⟩:=nE (R:=R) c2 eL.1
  obtain ⟨x4,c4,_,_,uW,e4⟩:=nE (R:=R) c3 hY.1
  have b2:=bQ.tr eL
  have b3:=b2.tr hY
  have b4:=b3.tr uW
  refine ⟨(aC ((aC ((aC ((aC (x1*16777216))+(aC (x2*65536))))+(aC (x3*256))))+x4)).tmod n,c4,?_,Int.tmod_lt_of_pos _ hn,b4,fun k=> ?_⟩
  ·refine Int.tmod_nonneg _ ?_
   rw [cy (n:=x1*16777216) (by omega) (by omega),cy (n:=x2*65536) (by omega) (by omega),cy (n:=x3*256) (by omega) (by omega),cy (n:=x1*16777216+x2*65536) (by omega) (by omega),cy (n:=x1*16777216+x2*65536+x3*256) (by omega) (by omega),cy (by omega) (by omega)]
   omega
  ·simp only [aF]
   rw [decide_eq_false (by omega),bh,decide_eq_false h,bh,e1,bQ.mk',e2,b2.mk',e3,b3.mk',e4,b4.mk',ai]
   simp; omega
theorem aY {α:Type} {l:List α} {i:Nat} (d:α) (h:i<l.length):l.getD i d∈l:=by
 have:l.getD i d=l[i]:=by simp [zT,h]
 rw [this]; exact List.getElem_mem _
theorem eN (l:List Int) (hl:0<l.length) (h2:l.length<=cL) (c:dP) (hc:uq c):∃ x c',x∈l/\Cn c c'/\∀ k:Int->dP->Option R,cM l c k=k x c':=by
 have h2:l.length<=2097152:=h2
 obtain ⟨x,c',x1,x2,lD,e⟩:=bu (R:=R) (l.length:Int) (by omega) (by omega) c hc
 refine ⟨l.getD x.toNat 0,c',aY 0 (by omega),lD,fun k=> ?_⟩
 simp only [cM]
 rw [e,ai,lD.mk']
 simp only [bc,zB,zD]; omega
theorem tJ (l:List ByteArray) (hl:0<l.length) (h2:l.length<=cL) (c:dP) (hc:uq c):∃ x c',x∈l/\Cn c c'/\∀ k:ByteArray->dP->Option R,fK l c k=k x c':=by
 have h2:l.length<=2097152:=h2
 obtain ⟨x,c',x1,x2,lD,e⟩:=bu (R:=R) (l.length:Int) (by omega) (by omega) c hc
 refine ⟨l.getD x.toNat eS,c',aY eS (by omega),lD,fun k=> ?_⟩
 simp only [fK]
 rw [e,ai,lD.mk']
 simp only [bc,zB,zD]; omega
def pM:List ByteArray:=[S [97],S [98],S [99],S [100,100],S [101,49]]
theorem CW (c:dP) (hc:uq c):∃ x c',x∈pM/\Cn c c'/\∀ k:ByteArray->dP->Option R,pW c k=k x c':=by
 obtain ⟨x,c',x1,lD,e⟩:=tJ (R:=R) pM (by decide) (by decide) c hc
 refine ⟨x,c',x1,lD,fun k=> ?_⟩
 simp only [pW]
 exact (e _).trans (by rw [lD.mk'])
theorem ee (n:Int) (hn:0<n) (h2:n<=4611686018427387904) (c:dP) (hc:uq c):∃ (x:Bool) (c':dP),Cn c c'/\∀ k:Bool->dP->Option R,cd n c k=k x c':=by
 obtain ⟨x,c',x1,x2,lD,e⟩:=bu (R:=R) n hn h2 c hc
 refine ⟨x==0,c',lD,fun k=> ?_⟩
 simp only [cd]
 rw [e,lD.mk']
end Go.Soft
