import Derived.Test.YthkhihfodaobkaaGreatHB
import Derived.Orders
import Derived.LoopN
set_option linter.constructorNameAsVariable false
set_option linter.unusedSimpArgs false
set_option linter.unusedVariables false
namespace Go.Soft
open Go
variable {X:Ctx} {m M:Lk} {γ γ':Gh} {w w':World} {ρ:Operand->Value} {S T:St} {δ δ':Dl}
section
variable {R:Type} {E:Env R} {ops:Array Oper}
def Iq (S:St) (rs:List Rec) (i:Nat):St:=(rs.take i).foldl lE S
def aaO (X:Ctx) (E:Env R) (ops:Array Oper) (S:St) (rs:List Rec):Prop:=∀ (i:Nat) (x:Rec),rs[i]? =some x ->
 ∀ K:List (Nat×Bool)×Bool×AV×Dl->Option R,(BV X E ops ((Iq S rs i).cut ops x.o) x.o fun p q v δ=>K (p,q,v,δ))=K (x.p,x.q,x.v,x.δ)
def Je (ops:Array Oper):St->List Rec->List Fp
 | _,[]=>[]
 | S,x::l=>ji ops S x.o x.v x.δ::Je ops (lE S x) l
theorem BH:∀ (rs:List Rec) (S:St) (i:Nat) (x:Rec),rs[i]? =some x->(Je ops S rs)[i]? =some (ji ops (Iq S rs i) x.o x.v x.δ)
 | [],_,_,_,h=>by simp at h
 | y::l,S,0,x,h=>by simp at h; subst h; rfl
 | y::l,S,i+1,x,h=>by
  have:=BH l (lE S y) i x (by simpa using h)
  simpa [Je,Iq] using this
theorem trace (r0:R) (hE:∀ f cn cP,gD (E.fn f cn cP)) {s':St} {fp':List Fp}:∀ (l:List Oper) (S:St) (fp:List Fp),(∀ K:St×List Fp->Option R,(gF X E ops true l S fp fun s f=>K (s,f))=K (s',fp')) ->
  ∃ rs:List Rec,rs.map (·.o)=l/\aaO X E ops S rs/\s'=rs.foldl lE S/\fp'=fp++Je ops S rs
 | [],S,fp,h=>by
  have:=jd r0 h
  simp only [zG] at this
  exact ⟨[],rfl,fun i x hx=>by simp at hx,this.1.symm,by simp [Je,this.2]⟩
 | o::l,S,fp,h=>by
  obtain ⟨oc,rP⟩:=tT (X:=X) hE ops (S.cut ops o) o
  cases oc with
  | none =>
   exact False.elim<|bQ r0 (α:=St×List Fp) (y:=(s',fp')) fun K=>by
    have h1:=h K
    have h2:=rP fun x=>gF X E ops true l ((S.app x.2.2.2).put o.dst (gd x.1 x.2.1 x.2.2.1)) (fp++[ji ops S o x.2.2.1 x.2.2.2]) fun s f=>K (s,f)
    exact h2.symm.trans h1
  | some x =>
   obtain ⟨p,q,v,δ⟩:=x
   have Rt:∀ K:St×List Fp->Option R,(gF X E ops true l (lE S ⟨o,p,q,v,δ⟩) (fp++[ji ops S o v δ]) fun s f=>K (s,f))=K (s',fp'):=by
    intro K
    have h1:=h K
    have h2:=rP fun x=>gF X E ops true l ((S.app x.2.2.2).put o.dst (gd x.1 x.2.1 x.2.2.1)) (fp++[ji ops S o x.2.2.1 x.2.2.2]) fun s f=>K (s,f)
    exact h2.symm.trans h1
   obtain ⟨rs,h1,h2,h3,h4⟩:=trace r0 hE l _ _ Rt
   refine ⟨⟨o,p,q,v,δ⟩::rs,by simp [h1],fun i x hx K=> ?_,by simpa using h3,by simp [Je,h4]⟩
   cases i with
   | zero=>simp at hx; subst hx; exact rP K
   | succ i=>exact h2 i x (by simpa using hx) K
theorem go_get {n:List Nat} {x:Fp}:∀ {m:List Fp} {i:Nat},gH.go n i m x=true->∀ (a:Nat) (y:Fp),m[a]? =some y->i+a∉n->apart y x=true
 | [],_,_,a,y,h,_=>by simp at h
 | z::m,i,hg,a,y,h,hn=>by
  simp only [gH.go,zB] at hg
  cases a with
  | zero =>
   simp at h; subst h
   have h1:=hg.1
   rw [xf (by simpa using hn)] at h1
   exact h1
  | succ a=>exact go_get hg.2 a y (by simpa using h) (by rw [show i+1+a=i+(a+1) by omega]; exact hn)
theorem wW {A:List (List Nat)}:∀ {l done:List Fp},gH A done.length done l=true->∀ (a b:Nat) (y x:Fp),(done++l)[a]? =some y->l[b]? =some x->a<done.length+b->a∉lP A (done.length+b)->apart y x=true
 | [],done,_,a,b,y,x,_,hx,_,_=>by simp at hx
 | z::l,done,h,a,b,y,x,hy,hx,tP,hn=>by
  simp only [gH,zB] at h
  cases b with
  | zero =>
   simp at hx; subst hx
   simp only [Nat.add_zero] at tP hn
   rw [List.getElem?_append_left tP] at hy
   exact go_get h.1 a y hy (by simpa using hn)
  | succ b =>
   have hlen:(done++[z]).length=done.length+1:=by simp
   have h2:=h.2
   rw [← hlen] at h2
   exact wW h2 a b y x (by simpa using hy) (by simpa using hx) (by rw [hlen]; omega) (by rw [hlen,show done.length+1+b=done.length+(b+1) by omega]; exact hn)
theorem SF {acc:List (List Nat)} {k x:Nat} (h:x∈lP acc k):k<acc.length:=by
 simp only [lP,iC] at h
 rcases Nat.lt_or_ge k acc.length with hk | hk
 ·exact hk
 ·rw [List.getElem?_eq_none hk] at h; simp at h
theorem Hi {acc b:List (List Nat)} {k:Nat} (h:k<acc.length):lP (acc++b) k=lP acc k:=by
 simp only [lP,iC,List.getElem?_append_left h]
theorem GD {x y:Nat} {l:List Nat}:x∈Sm y l->x=y\/x∈l:=by
 simp only [Sm]; split
 ·exact .inr
 ·exact fun h=>zI.1 h
theorem DS {x:Nat}:∀ {l m:List Nat},x∈Lg l m->x∈l\/x∈m
 | [],m,h=> .inr h
 | y::l,m,h=>by
  simp only [Lg] at h
  rcases GD h with rfl | h
  ·exact .inl zO
  ·exact (DS h).imp (zJ _) id
theorem HW {acc:List (List Nat)} {x:Nat}:∀ {es:List Nat},x∈CG acc es->∃ e∈es,x=e\/x∈lP acc e
 | [],h=>by simp [CG] at h
 | e::l,h=>by
  simp only [CG] at h
  rcases GD h with rfl | h
  ·exact ⟨x,zO,.inl rfl⟩
  ·rcases DS h with h | h
   ·exact ⟨e,zO,.inr h⟩
   ·obtain ⟨e',h1,h2⟩:=HW h; exact ⟨e',zJ _ h1,h2⟩
theorem Gv:∀ (l:List Oper) (acc:List (List Nat)),∃ b,lR acc l=acc++b
 | [],acc=>⟨[],by simp [lR]⟩
 | o::l,acc=>by
  obtain ⟨b,hb⟩:=Gv l (acc++[CG acc (jx o.after.toList)])
  exact ⟨CG acc (jx o.after.toList)::b,by simp [lR,hb]⟩
theorem Hp:∀ {l:List Oper} {acc:List (List Nat)} {k x:Nat} {o:Oper},l[k]? =some o->x∈lP (lR acc l) (acc.length+k)->∃ e∈jx o.after.toList,x=e\/x∈lP (lR acc l) e
 | [],_,_,_,_,h,_=>by simp at h
 | z::l,acc,0,x,o,h,hx=>by
  simp at h; subst h
  obtain ⟨b,hb⟩:=Gv l (acc++[CG acc (jx z.after.toList)])
  have hz:lP (lR acc (z::l)) acc.length=CG acc (jx z.after.toList):=by
   simp only [lR,hb,lP,iC]; simp
  rw [Nat.add_zero,hz] at hx
  obtain ⟨e,h1,h2⟩:=HW hx
  refine ⟨e,h1,h2.imp id fun h3=> ?_⟩
  have:lR acc (z::l)=acc++([CG acc (jx z.after.toList)]++b):=by simp [lR,hb]
  rw [this,Hi (SF h3)]; exact h3
 | z::l,acc,k+1,x,o,h,hx=>by
  simp only [lR] at hx ⊢
  exact Hp (acc:=acc++[CG acc (jx z.after.toList)]) (by simpa using h) (by rw [zK,zL,show acc.length+1+k=acc.length+(k+1) by omega]; exact hx)
theorem Ew {A:List (List Nat)}:∀ {l:List Oper} {n:Nat},sQ A n l=true->∀ (i:Nat) (o:Oper),l[i]? =some o->∀ j w,o.guard=some (j,w)->j∈lP A (n+i)
 | [],_,_,i,o,h,_,_,_=>by simp at h
 | z::l,n,hg,i,o,h,j,w,ho=>by
  simp only [sQ,zB] at hg
  cases i with
  | zero=>simp at h; subst h; have h1:=hg.1; rw [ho] at h1; exact ft.1 h1
  | succ i=>have:=Ew hg.2 i o (by simpa using h) j w ho; rwa [show n+1+i=n+(i+1) by omega] at this
theorem rH {e:Nat}:∀ {l:List Edge},e∈jx l↔∃ d∈l,Fq d=true/\d.on=e
 | []=>by simp [jx]
 | d::l=>by
  simp only [jx]
  cases h:Fq d with
  | true=>simp only [zI,rH,exists_eq_or_imp,h,true_and]; exact ⟨fun h=>h.imp Eq.symm id,fun h=>h.imp Eq.symm id⟩
  | false=>simp [rH,h]
theorem CB (d:Edge):Region.binds .any d=Fq d:=by
 obtain ⟨on,g⟩:=d
 cases g<;>rfl
theorem wa:∀ {l:List Oper} {n:Nat},oF n l=true->∀ (i:Nat) (o:Oper),l[i]? =some o->∀ e∈jx o.after.toList,e<n+i
 | [],_,_,i,o,h,_,_=>by simp at h
 | z::l,n,hg,i,o,h,e,he=>by
  simp only [oF,zB] at hg
  cases i with
  | zero=>simp at h; subst h; exact n9.1 hg.1 e he
  | succ i=>have:=wa hg.2 i o (by simpa using h) e he; omega
structure Yh (a b:Fp):Prop where
 wt:∀ t∈a.wt,t∉b.rt
 d1:∀ t,a.d=some t->t∉b.rt
 d2:∀ t,b.d=some t->t∉a.rt
 dd:∀ t,a.d=some t->b.d≠some t
 r1:∀ r∈a.wr,r∉b.rr
 r2:∀ r∈a.wr,r∉b.wr
 r3:∀ r∈a.rr,r∉b.wr
 v1:∀ r∈a.wv,r∉b.rv
 v2:∀ r∈a.wv,r∉b.wv
 v3:∀ r∈a.rv,r∉b.wv
 k1:∀ r∈a.kw,r∉b.pm
 k2:∀ r∈a.pm,r∉b.kw
theorem Ea {a:Option Nat} {l:List Nat} (h:KW a l=true):∀ t,a=some t->t∉l:=by
 intro t ht
 subst ht
 intro hm
 simp only [KW,ft.2 hm] at h
 cases h
theorem apart_spec {a b:Fp} (h:apart a b=true):Yh a b:=by
 simp only [apart,zB] at h
 obtain ⟨h0,h1,h2,h3,h4,h5,h6,h7,h8,h9,h10,h11⟩:=h
 refine ⟨eT.1 h0,Ea h1,Ea h2,fun t ha hb=> ?_,eT.1 h4,eT.1 h5,eT.1 h6,eT.1 h7,eT.1 h8,eT.1 h9,eT.1 h10,eT.1 h11⟩
 rw [ha,hb] at h3
 simp only [Nat.beq_refl] at h3
 cases h3
theorem Li {Rs V:List Nat}:∀ {l:List (Nat×AV)} {t:Nat} {v:AV},t∉Pf Rs V l->lk l t=some v->L1 Rs V v.Du
 | [],_,_,_,h=>by cases h
 | (k,u)::l,t,v,hn,h=>by
  simp only [Pf] at hn
  simp only [lk] at h
  cases hk:Nat.beq k t with
  | true =>
   simp only [hk,zA] at h
   have:=aM hk; subst this; subst h
   revert hn; split
   ·rename_i h1 h2
    intro _
    exact ⟨fun r hr hm=>(by rw [tB.2 ⟨r,hr,hm⟩] at h1; cases h1),fun r hr hm=>(by rw [tB.2 ⟨r,hr,hm⟩] at h2; cases h2)⟩
   ·intro hn; exact absurd zO hn
  | false =>
   simp only [hk] at h
   refine Li (l:=l) ?_ h
   revert hn; split
   ·exact id
   ·intro hn hm; exact hn (zJ _ hm)
theorem K3 {Rs V:List Nat}:∀ {l:List (Nat×List Cv)} {t:Nat} {v:List Cv},t∉Oo Rs V l->lk l t=some v->L1 Rs V v
 | [],_,_,_,h=>by cases h
 | (k,u)::l,t,v,hn,h=>by
  simp only [Oo] at hn
  simp only [lk] at h
  cases hk:Nat.beq k t with
  | true =>
   simp only [hk,zA] at h
   have:=aM hk; subst this; subst h
   revert hn; split
   ·rename_i h1 h2
    intro _
    exact ⟨fun r hr hm=>(by rw [tB.2 ⟨r,hr,hm⟩] at h1; cases h1),fun r hr hm=>(by rw [tB.2 ⟨r,hr,hm⟩] at h2; cases h2)⟩
   ·intro hn; exact absurd zO hn
  | false =>
   simp only [hk] at h
   refine K3 (l:=l) ?_ h
   revert hn; split
   ·exact id
   ·intro hn hm; exact hn (zJ _ hm)
theorem DD (h:δ.quiet=true) (l:List Cv):L1 δ.kj δ.kv l:=by
 obtain ⟨mv,kr,ke,kn,kv,rs,vs⟩:=δ
 have:mv=[]/\kr=[]/\ke=[]/\kn=[]/\kv=[]:=by
  revert h; simp only [Dl.quiet]; split<;>simp_all
 obtain ⟨rfl,rfl,rfl,rfl,rfl⟩:=this
 exact ⟨fun r _ hm=>by simp [Dl.kj,keys] at hm,fun r _ hm=>by simp at hm⟩
theorem Mq.ahead {A B:St} {x y:Rec} (h:Yh (ji ops A x.o x.v x.δ) (ji ops B y.o y.v y.δ)) :
  Mq (RR ops y.o) (VA (wN ops B y.o)) (Vd B (wN ops B y.o)) A x:=by
 have wt:∀ t∈RR ops y.o,∀ v,lk A.tm t=some v->L1 x.δ.kj x.δ.kv v.Du:=by
  intro t ht v hv
  cases hq:x.δ.quiet with
  | true=>exact DD hq _
  | false =>
   refine Li (fun hm=>h.wt t ?_ ht) hv
   simp only [ji,hq]; exact hm
 have wv:∀ k∈VA (wN ops B y.o),∀ cs,A.lk.v k=some cs->L1 x.δ.kj x.δ.kv cs:=by
  intro k hk cs hc
  cases hq:x.δ.quiet with
  | true=>exact DD hq _
  | false =>
   refine K3 (fun hm=>h.v1 k ?_ hk) hc
   simp only [ji,hq,zH]; exact .inr (.inl hm)
 refine ⟨fun t ht hd=>h.d1 t hd ht,wt,fun k hk hm=>h.v1 k ?_ hk,wv,fun k hk hm=>h.r1 k ?_ ?_⟩
 ·simp only [ji,zH]; exact .inr (.inr hm)
 ·simp only [ji,zH]; exact .inr (.inr hm)
 ·simp only [ji,zH]; exact .inr (.inl hk)
theorem Gw {o:Oper} {t:Nat} {v:AV} (ht:t∈RR ops o) (hv:lk S.tm t=some v):v∈HI ops S o:=by
 simp only [HI,xK]
 exact List.mem_map.2 ⟨t,ht,by simp only [St.get,hv]⟩
theorem O3 {l:List AV} {v:AV} {r:Nat} (hv:v∈l) (hr:r∈vA v.Du):r∈Jn l:=by
 induction l with
 | nil=>cases hv
 | cons x l ih=>simp only [Jn,zH]; rcases zI.1 hv with rfl | hv; exact .inl hr; exact .inr (ih hv)
theorem P4 {l:List AV} {v:AV} {r:Nat} (hv:v∈l) (hr:r∈vT v.Du):r∈IT l:=by
 induction l with
 | nil=>cases hv
 | cons x l ih=>simp only [IT,zH]; rcases zI.1 hv with rfl | hv; exact .inl hr; exact .inr (ih hv)
theorem I4 {l:List Nat} {k r:Nat} {cs:List Cv} (hk:k∈l) (hc:m.v k=some cs) (hr:r∈vA cs):r∈m.rowsOf l:=by
 induction l with
 | nil=>cases hk
 | cons x l ih=>simp only [Lk.rowsOf,zH]; rcases zI.1 hk with rfl | hk; exact .inl (by rw [hc]; exact hr); exact .inr (ih hk)
theorem JJ {l:List Nat} {k r:Nat} {cs:List Cv} (hk:k∈l) (hc:m.v k=some cs) (hr:r∈vT cs):r∈m.varsOf l:=by
 induction l with
 | nil=>cases hk
 | cons x l ih=>simp only [Lk.varsOf,zH]; rcases zI.1 hk with rfl | hk; exact .inl (by rw [hc]; exact hr); exact .inr (ih hk)
theorem Mq.behind {A B:St} {x y:Rec} (h:Yh (ji ops B y.o y.v y.δ) (ji ops A x.o x.v x.δ)) :
  Mq (RR ops y.o) (VA (wN ops B y.o)) (Vd B (wN ops B y.o)) B x:=by
 have kw:∀ r∈x.δ.kj,r∈(ji ops A x.o x.v x.δ).wr:=fun r hr=>by simp only [ji,zH]; exact .inr (.inl hr)
 refine ⟨fun t ht hd=>h.d2 t hd ht,fun t ht v hv=>⟨fun r hr hm=>h.r3 r ?_ (kw r hm),fun k hk hm=>h.k2 k ?_ hm⟩,fun k hk hm=>h.v3 k hk ?_,fun k hk cs hc=>⟨fun r hr hm=>h.r3 r ?_ (kw r hm),fun r hr hm=>h.k2 r ?_ hm⟩,fun k hk hm=>h.r3 k ?_ ?_⟩
 ·simp only [ji,zH]; exact .inl (O3 (Gw ht hv) hr)
 ·simp only [ji,zH]; exact .inl (P4 (Gw ht hv) hk)
 ·simp only [ji,zH]; exact .inr (.inr hm)
 ·simp only [ji,Vd,zH]; exact .inr (.inl (.inr (I4 hk hc hr)))
 ·simp only [ji,zH]; exact .inr (.inl (JJ hk hc hr))
 ·simp only [ji,zH]; exact .inr (.inl hk)
 ·simp only [ji,zH]; exact .inr (.inr hm)
theorem Yc.of {A B:St} {x y:Rec} (h:Yh (ji ops A x.o x.v x.δ) (ji ops B y.o y.v y.δ)):Yc x y:=by
 have wr:∀ (A:St) (x:Rec),∀ r∈x.wr,r∈(ji ops A x.o x.v x.δ).wr:=fun A x r hr=>hr
 have wv:∀ (A:St) (x:Rec),∀ r∈x.wv,r∈(ji ops A x.o x.v x.δ).wv:=fun A x r hr=>by
  simp only [ji,Rec.wv,zH] at hr ⊢
  exact hr.imp id .inr
 have ro:∀ (A:St) (x:Rec),∀ r∈x.ro,r∈(ji ops A x.o x.v x.δ).rr:=fun A x r hr=>by
  simp only [ji,Rec.ro,zH] at hr ⊢
  exact .inr (.inr hr)
 have vo:∀ (A:St) (x:Rec),∀ r∈x.vo,r∈(ji ops A x.o x.v x.δ).pm:=fun A x r hr=>by
  simp only [ji,Rec.vo,zH] at hr ⊢
  exact .inr (.inr hr)
 exact ⟨h.dd,fun r hr hm=>h.r2 r (wr A x r hr) (wr B y r hm),fun r hr hm=>h.v2 r (wv A x r hr) (wv B y r hm),fun r hr hm=>h.r1 r (wr A x r hr) (ro B y r hm),fun r hr hm=>h.k1 r hr (vo B y r hm),
  fun r hr hm=>h.r3 r (ro A x r hm) (wr B y r hr),fun r hr hm=>h.k2 r (vo A x r hm) hr⟩
variable {e0:Lk} {γ0:Gh} {w0:World}
def tD (L:Nat->Bool):Nat->List Oper->List Nat
 | _,[]=>[]
 | n,o::l=>(bif L n then (match o.dst with | some d=>[d] | none=>[]) else [])++tD L (n+1) l
theorem mi {L:Nat->Bool} {t:Nat}:∀ {l:List Oper} {n:Nat},t∈tD L n l↔∃ (k:Nat) (o:Oper),l[k]? =some o/\L (n+k)=true/\o.dst=some t
 | [],n=>by simp [tD]
 | o::l,n=>by
  simp only [tD,zH,mi (l:=l)]
  constructor
  ·rintro (h | ⟨k,o',h1,h2,h3⟩)
   ·cases hL:L n with
    | false=>rw [hL] at h; simp at h
    | true =>
     rw [hL] at h
     cases ho:o.dst with
     | none=>rw [ho] at h; simp at h
     | some d=>rw [ho] at h; simp at h; exact ⟨0,o,rfl,by simpa using hL,by rw [ho,h]⟩
   ·exact ⟨k+1,o',by simpa using h1,by rw [← h2]; congr 1; omega,h3⟩
  ·rintro ⟨k,o',h1,h2,h3⟩
   cases k with
   | zero=>simp at h1; subst h1; rw [Nat.add_zero] at h2; rw [h2,h3]; exact .inl (by simp)
   | succ k=>exact .inr ⟨k,o',by simpa using h1,by rw [← h2]; congr 1; omega,h3⟩
theorem HT:∀ {l:List Oper},(lJ l).Nodup->∀ (i j:Nat) (a b:Oper) (t:Nat),l[i]? =some a->l[j]? =some b->a.dst=some t->b.dst=some t->i=j
 | [],_,i,_,_,_,_,h,_,_,_=>by simp at h
 | o::l,hn,i,j,a,b,t,hi,hj,ha,hb=>by
  have NZ:(lJ l).Nodup:=by
   simp only [lJ] at hn
   cases ho:o.dst with
   | none=>rwa [ho] at hn
   | some d=>rw [ho] at hn; exact (List.nodup_cons.1 hn).2
  have CQ:∀ {k:Nat} {x:Oper},o.dst=some t->l[k]? =some x->x.dst=some t->False:=by
   intro k x ho hx hxt
   simp only [lJ,ho] at hn
   exact (List.nodup_cons.1 hn).1 (tw.2 ⟨x,List.mem_of_getElem? hx,hxt⟩)
  cases i with
  | zero =>
   simp at hi; subst hi
   cases j with
   | zero=>rfl
   | succ j=>exact (CQ ha (by simpa using hj) hb).elim
  | succ i =>
   cases j with
   | zero=>simp at hj; subst hj; exact (CQ hb (by simpa using hi) ha).elim
   | succ j=>rw [HT NZ i j a b t (by simpa using hi) (by simpa using hj) ha hb]
theorem R1 (r0:R) (hX:iH X) (hE:sE X E) {a:Act} {w:World} (hr:N5 X ops) {s':St} {fp':List Fp} (hK:∀ K:St×List Fp->Option R,(gF X E ops true ops.toList S [] fun s f=>K (s,f))=K (s',fp'))
  (NH:oF 0 ops.toList=true) (hga:sQ (lR [] ops.toList) 0 ops.toList=true) (ll:gH (lR [] ops.toList) 0 [] fp'=true)
  (Z4:pQ S) (hI:Inv X e0 γ0 w0 S γ a w)
  {Q:Exit->Act->World->Prop} (hQ:∀ γ' a' w',Inv X e0 γ0 w0 s' γ' a' w'->Q .normal a' w') :
  wpAny X.P .any ops Q ops.size (Array.replicate ops.size false) a w:=by
 obtain ⟨rs,No,htr,rfl,rfl⟩:=trace r0 hE.Gf _ _ _ hK
 have hlen:rs.length=ops.size:=by have:=congrArg List.length No; simpa using this
 have sv:∀ (i:Nat) (x:Rec),rs[i]? =some x->ops[i]? =some x.o:=by
  intro i x hx
  have:(rs.map (·.o))[i]? =some x.o:=by rw [List.getElem?_map,hx]; rfl
  rw [No] at this; simpa using this
 have hro:∀ (i:Nat) (o:Oper),ops[i]? =some o->∃ x,rs[i]? =some x/\x.o=o:=by
  intro i o ho
  have:(rs.map (·.o))[i]? =some o:=by rw [No]; simpa using ho
  rw [List.getElem?_map] at this
  cases hx:rs[i]? with
  | none=>rw [hx] at this; cases this
  | some x=>rw [hx] at this; simp at this; exact ⟨x,rfl,this⟩
 let A:=lR [] ops.toList
 have Ny:∀ (i j:Nat) (x y:Rec),rs[i]? =some x->rs[j]? =some y->i<j->i∉lP A j->Yh (ji ops (Iq S rs i) x.o x.v x.δ) (ji ops (Iq S rs j) y.o y.v y.δ):=by
  intro i j x y hx hy Uh hn
  have h0:gH A (List.length ([]:List Fp)) [] (Je ops S rs)=true:=by simpa using ll
  exact apart_spec (wW h0 i j _ _ (by simpa using BH rs S i x hx) (BH rs S j y hy) (by simpa using Uh) (by simpa using hn))
 have hA:∀ (j x:Nat) (o:Oper),ops[j]? =some o->x∈lP A j->∃ e∈jx o.after.toList,x=e\/x∈lP A e:=by
  intro j x o ho hx
  exact Hp (l:=ops.toList) (acc:=[]) (k:=j) (by simpa using ho) (by simpa using hx)
 have main:∀ (fuel:Nat) (listed:Array Bool) (γ:Gh) (a:Act) (w:World),listed.size=ops.size->((List.range ops.size).filter fun k=> !listed.getD k true).length<=fuel ->
   (∀ j,listed.getD j true=true->j<ops.size->∀ x∈lP A j,listed.getD x true=true) ->
   Inv X e0 γ0 w0 (sn (fun k=>listed.getD k true) 0 S rs) γ a w->yk (tD (fun k=>listed.getD k true) 0 ops.toList) (sn (fun k=>listed.getD k true) 0 S rs) a ->
   wpAny X.P .any ops Q fuel listed a w:=by
  intro fuel
  induction fuel with
  | zero =>
   intro listed γ a w mH hU hC hI hG
   have Tj:∀ k,k<ops.size->listed.getD k true=true:=by
    intro k hk
    have WL:(List.range ops.size).filter (fun k=> !listed.getD k true)=[]:=List.length_eq_zero_iff.1 (Nat.le_zero.1 hU)
    have:=List.filter_eq_nil_iff.1 WL k (List.mem_range.2 hk)
    simpa using this
   refine ⟨List.eq_nil_iff_forall_not_mem.2 fun j hj=> ?_,hQ γ a w ?_⟩
   ·obtain ⟨h1,o,ho,_⟩:=mem_ready.1 hj
    rw [Tj j (Array.getElem?_eq_some_iff.1 ho).1] at h1; cases h1
   ·rw [← Fj (L:=fun k=>listed.getD k true) rs 0 S fun k _ hk=>Tj k (by omega)]; exact hI
  | succ fuel ih =>
   intro listed γ a w mH hU hC hI hG
   refine ⟨fun WL=>hQ γ a w ?_,fun i hi=> ?_⟩
   ·have Tj:∀ n,∀ k,k<n->k<ops.size->listed.getD k true=true:=by
     intro n
     induction n with
     | zero=>intro k hk; omega
     | succ n ihn =>
      intro k hk hks
      rcases Nat.lt_or_ge k n with h | h
      ·exact ihn k h hks
      ·have Gb:k=n:=by omega
       subst Gb
       cases hl:listed.getD k true with
       | true=>rfl
       | false =>
        exfalso
        have:k∈Region.ready .any ops listed:=by
         refine mem_ready.2 ⟨hl,ops[k],Array.getElem?_eq_getElem hks,fun e he hb=> ?_⟩
         have hm:e.on∈jx (ops[k]).after.toList:=rH.2 ⟨e,by simpa using he,by rw [← CB]; exact hb,rfl⟩
         have fW:=wa NH k ops[k] (by simp [hks]) e.on hm
         rw [Nat.zero_add] at fW
         have:=ihn e.on fW (by omega)
         have Tu:e.on<listed.size:=by omega
         rw [Array.getD_eq_getD_getElem?,Array.getElem?_eq_getElem Tu] at this ⊢
         exact this
        rw [WL] at this; cases this
    rw [← Fj (L:=fun k=>listed.getD k true) rs 0 S fun k _ hk=>Tj ops.size k (by omega) (by omega)]; exact hI
   ·obtain ⟨Gk,o,ho,Y3⟩:=mem_ready.1 hi
    have his:i<ops.size:=(Array.getElem?_eq_some_iff.1 ho).1
    obtain ⟨x,hx,hxo⟩:=hro i o ho
    subst hxo
    let L:Nat->Bool:=fun k=>listed.getD k true
    have hLi:L i=false:=Gk
    have WN:∀ y∈lP A i,L y=true:=by
     intro y hy
     obtain ⟨e,he,We⟩:=hA i y x.o ho hy
     obtain ⟨d,hd,hb,rfl⟩:=rH.1 he
     have V7:=Y3 d (by simpa using hd) (by rw [CB]; exact hb)
     have fW:d.on<i:=by have:=wa NH i x.o (by simpa using ho) d.on he; omega
     have Tu:d.on<listed.size:=by omega
     have Y2:listed.getD d.on true=true:=by
      rw [Array.getD_eq_getD_getElem?,Array.getElem?_eq_getElem Tu] at V7 ⊢; exact V7
     rcases We with rfl | We
     ·exact Y2
     ·exact hC d.on Y2 (by omega) y We
    let T:=sn L 0 S rs
    let S':=(Iq S rs i).cut ops x.o
    have CZ:rs=rs.take i++x::rs.drop (i+1):=by
     have sx:i<rs.length:=by omega
     have:rs.drop i=x::rs.drop (i+1):=by
      rw [List.drop_eq_getElem_cons sx]
      congr 1
      have:=List.getElem?_eq_getElem sx
      rw [hx] at this; exact (Option.some.inj this).symm
     rw [← this,List.take_append_drop]
    have Tt:(rs.take i).length=i:=by simp; omega
    have Ws:Gi (RR ops x.o) (VA (wN ops (Iq S rs i) x.o)) (Vd (Iq S rs i) (wN ops (Iq S rs i) x.o)) (Iq S rs i) T:=by
     show Gi _ _ _ _ (sn L 0 S rs)
     rw [CZ,qD,Tt]
     simp only [Nat.zero_add,sn,hLi,zF]
     rw [← CZ]
     refine Kw L _ _ _ _ (Ku L (rs.take i) 0 S S ⟨fun _ _=>rfl,fun _ _=>rfl,fun _ _=>rfl⟩ fun k y hk hL=> ?_) fun k y hk hL=> ?_
     ·have J4:k<i:=by have:=(zU.1 hk).1; omega
      have so:rs[k]? =some y:=by rw [List.getElem?_take,if_pos J4] at hk; exact hk
      rw [Nat.zero_add] at hL
      have hn:k∉lP A i:=fun hm=>by have:=WN k hm; rw [hL] at this; cases this
      have:=Mq.ahead (Ny k i y x so hx J4 hn)
      rw [List.take_take,Nat.min_eq_left (Nat.le_of_lt J4)]
      exact this
     ·have so:rs[i+1+k]? =some y:=by rw [List.getElem?_drop] at hk; exact hk
      have fW:i+1+k<ops.size:=by have:=(zU.1 so).1; omega
      have hn:i∉lP A (i+1+k):=fun hm=>by have:=hC (i+1+k) hL fW i hm; rw [Gk] at this; cases this
      exact Mq.behind (Ny i (i+1+k) x y hx so (by omega) hn)
    have hm:Le S'.lk T.lk:=by
     refine ⟨fun k row hk=> ?_,fun k cs hk=> ?_⟩
     ·have hk:lk (Co (Vd (Iq S rs i) (wN ops (Iq S rs i) x.o)) (Iq S rs i).rs) k=some row:=hk
      rw [EW] at hk
      split at hk
      ·rename_i eP; rw [← Ws.r k eP]; exact hk
      ·cases hk
     ·have hk:lk (Co (VA (wN ops (Iq S rs i) x.o)) (Iq S rs i).vs) k=some cs:=hk
      rw [EW] at hk
      split at hk
      ·rename_i eP; rw [← Ws.v k eP]; exact hk
      ·cases hk
    have ht:∀ t av,lk S'.tm t=some av->lk T.tm t=some av:=by
     intro t av hk
     have hk:lk (Co (RR ops x.o) (Iq S rs i).tm) t=some av:=hk
     rw [EW] at hk
     split at hk
     ·rename_i eP; rw [← Ws.t t eP]; exact hk
     ·cases hk
    have hol:ops.toList[i]? =some x.o:=by simpa using ho
    have CP:∀ d,x.o.dst=some d->d<X.nt:=fun d hd=>hr.lt d (tw.2 ⟨x.o,List.mem_of_getElem? hol,hd⟩)
    have Ik:∀ j w,x.o.guard=some (j,w)->∀ oj t,ops[j]? =some oj->oj.dst=some t->t∈tD L 0 ops.toList:=by
     intro j w hg oj t hj ht
     have hm:=Ew hga i x.o hol j w hg
     rw [Nat.zero_add] at hm
     exact mi.2 ⟨j,oj,by simpa using hj,by rw [Nat.zero_add]; exact WN j hm,ht⟩
    have hdn:∀ d,x.o.dst=some d->d∉tD L 0 ops.toList:=by
     intro d hd eP
     obtain ⟨k,ok,h1,h2,h3⟩:=mi.1 eP
     have:=HT hr.nd k i ok x.o d h1 hol h3 hd
     subst this
     rw [Nat.zero_add,hLi] at h2; cases h2
    let listed':=listed.setIfInBounds i true
    have Ig:∀ k,listed'.getD k true=(L k||Nat.beq k i):=by
     intro k
     by_cases J4:i=k
     ·subst J4
      have:i<listed.size:=by omega
      have hb:Nat.beq i i=true:=Nat.beq_refl i
      rw [hb,Bool.or_true]
      show (listed.setIfInBounds i true).getD i true=true
      simp [this]
     ·have hb:Nat.beq k i=false:=by cases h:Nat.beq k i; rfl; exact absurd (aM h).symm J4
      rw [hb,Bool.or_false]
      exact getD_set_ne true J4
    have hEq:C8 (lE T x) (sn (fun k=>listed'.getD k true) 0 S rs):=by
     have NT:∀ k,k≠i->L k=listed'.getD k true:=by
      intro k hk
      have hb:Nat.beq k i=false:=by cases h:Nat.beq k i; rfl; exact absurd (aM h) hk
      rw [Ig,hb,Bool.or_false]
     have e1:sn (fun k=>listed'.getD k true) 0 S rs=sn L (i+1) (lE (sn L 0 S (rs.take i)) x) (rs.drop (i+1)):=by
      rw [CZ,qD,Tt]
      simp only [Nat.zero_add,sn]
      rw [← CZ,Ig i,Nat.beq_refl,Bool.or_true,zE]
      rw [yM (L:=fun k=>listed'.getD k true) (L':=L) (rs.drop (i+1)) (i+1) _ fun k h1 _=>(NT k (by omega)).symm]
      rw [yM (L:=fun k=>listed'.getD k true) (L':=L) (rs.take i) 0 S fun k _ h2=>(NT k (by rw [Tt] at h2; omega)).symm]
     have e2:T=sn L (i+1) (sn L 0 S (rs.take i)) (rs.drop (i+1)):=by
      show sn L 0 S rs=_
      conv=>lhs; rw [CZ]
      rw [qD,Tt]
      simp only [Nat.zero_add,sn,hLi,zF]
     rw [e1,e2]
     refine (Ha L x (rs.drop (i+1)) (i+1) _ fun k y hk hL=> ?_).symm
     have so:rs[i+1+k]? =some y:=by rw [List.getElem?_drop] at hk; exact hk
     have fW:i+1+k<ops.size:=by have:=(zU.1 so).1; omega
     have hn:i∉lP A (i+1+k):=fun hm=>by have:=hC (i+1+k) hL fW i hm; rw [Gk] at this; cases this
     exact Yc.of (Ny i (i+1+k) x y hx so (by omega) hn)
    have hU':((List.range ops.size).filter fun k=> !listed'.getD k true).length<=fuel:=by
     have h1:((List.range ops.size).filter fun k=> !listed'.getD k true)=((List.range ops.size).filter fun k=> !listed.getD k true).filter fun k=> !Nat.beq k i:=by
      rw [List.filter_filter]
      refine List.filter_congr fun k _=> ?_
      rw [Ig]
      show (!(listed.getD k true||Nat.beq k i))=_
      cases listed.getD k true<;>cases Nat.beq k i<;>rfl
     rw [h1]
     have eP:i∈(List.range ops.size).filter fun k=> !listed.getD k true:=List.mem_filter.2 ⟨List.mem_range.2 his,by rw [Gk]; rfl⟩
     have:=List.length_filter_lt_length_iff_exists (l:=(List.range ops.size).filter fun k=> !listed.getD k true) (p:=fun k=> !Nat.beq k i) |>.2 ⟨i,eP,by simp [Nat.beq_refl]⟩
     omega
    have hC':∀ j,listed'.getD j true=true->j<ops.size->∀ y∈lP A j,listed'.getD y true=true:=by
     intro j hj VY y hy
     rw [Ig] at hj ⊢
     by_cases Z0:j=i
     ·subst Z0; rw [WN y hy]; rfl
     ·have hb:Nat.beq j i=false:=by cases h:Nat.beq j i; rfl; exact absurd (aM h) Z0
      rw [hb,Bool.or_false] at hj
      have:=hC j hj VY y hy
      show (listed.getD y true||Nat.beq y i)=true
      rw [this]; rfl
    have WG:=Ll r0 hX hE hI.rel hI.top hI.tmp hG hm ht hr.nt CP Ik (v:=x.v) (δ:=x.δ) (p:=x.p) (q:=x.q) (fun K=>htr i x hx K) (next:=fun _ _=>True) (Q:=Q) (fun _ _ _ _ _=>trivial)
    have hgp:=WG.1
    have xU:=(Ll r0 hX hE hI.rel hI.top hI.tmp hG hm ht hr.nt CP Ik (v:=x.v) (δ:=x.δ) (p:=x.p) (q:=x.q) (fun K=>htr i x hx K) (next:=wpAny X.P .any ops Q fuel listed') (Q:=Q) fun γ' w' u qd hu=>by
     refine ih listed' γ' (a.put x.o.dst u) w' (by simp [listed',mH]) hU' hC' ((hI.step qd CP hu).eqv hEq) ?_
     refine yk.eqv ?_ hEq
     refine hG.step (fun t ht=> ?_) (fun d hd=>⟨hdn d hd,Nat.lt_of_lt_of_le (CP d hd) hI.tmp.1⟩) hgp
     obtain ⟨k,ok,h1,h2,h3⟩:=mi.1 ht
     refine mi.2 ⟨k,ok,h1,?_,h3⟩
     rw [Nat.zero_add] at h2 ⊢
     rw [Ig]
     show (listed.getD k true||Nat.beq k i)=true
     rw [h2]; rfl).2
    simp only [wpOp,ho]
    cases hw:Region.wanted x.o (yielded ops a.tmps) with
    | true=>rw [hw] at xU; simp only [if_true] at xU ⊢; exact .inl xU
    | false=>rw [hw] at xU; simpa using xU
 have hL0:∀ k,k<ops.size->(Array.replicate ops.size false).getD k true=false:=by
  intro k hk; simp [hk]
 have e0':sn (fun k=>(Array.replicate ops.size false).getD k true) 0 S rs=S:=HS rs 0 S fun k _ hk=>hL0 k (by omega)
 refine main ops.size (Array.replicate ops.size false) γ a w (by simp) (Nat.le_trans (List.length_filter_le _ _) (by simp)) (fun j hj VY=>by rw [hL0 j VY] at hj; cases hj) (by rw [e0']; exact hI) ?_
 rw [e0']
 have hd0:tD (fun k=>(Array.replicate ops.size false).getD k true) 0 ops.toList=[]:=by
  refine List.eq_nil_iff_forall_not_mem.2 fun t ht=> ?_
  obtain ⟨k,o,h1,h2,_⟩:=mi.1 ht
  have:k<ops.size:=by have:=(zU.1 h1).1; simpa using this
  rw [Nat.zero_add,hL0 k this] at h2; cases h2
 rw [hd0]
 exact vZ Z4
end
end Go.Soft
namespace Go.Soft
open Go
variable {X:Ctx} {m M:Lk} {γ γ':Gh} {w w':World} {ρ:Operand->Value} {S T:St} {δ δ':Dl}
section
variable {R:Type} {E:Env R} {ops:Array Oper} {e0:Lk} {γ0:Gh} {w0:World} {a:Act}
theorem Inv.drawn (h:Inv X e0 γ0 w0 S γ a w) (n:Nat):Inv X e0 γ0 w0 S γ a { w with drawn:=n }:=by
 refine ⟨⟨h.rel.vs,fun k row hk=>Hf (h.rel.rs k row hk) fun g o hg _=>⟨hg,rfl⟩⟩,h.top,h.tmp,h.df,⟨h.fr.os,h.fr.tape,h.fr.output,h.fr.size,h.fr.pd,h.fr.top⟩,h.i3,h.i4,h.i2⟩
def aaE (ops:Array Oper) (draw:Bool) (K:St->Option R) (x:St×List Fp):Option R:=match draw with
 | false=>K ⟨jb x.1.tm,x.1.vs,x.1.rs⟩
 | true=>match oF 0 ops.toList&&(sQ (lR [] ops.toList) 0 ops.toList&&gH (lR [] ops.toList) 0 [] x.2) with
  | true=>K ⟨jb x.1.tm,x.1.vs,x.1.rs⟩
  | false=>Option.none
theorem VQ (r0:R) (hX:iH X) (hE:sE X E) {id:Nat} {draw:Bool} {s':St} (hK:∀ K:St->Option R,xt X E ops draw S K=K s') (Z4:pQ S) (hI:Inv X e0 γ0 w0 S γ a w)
  {Q:Exit->Act->World->Prop} (hQ:pQ s'->∀ γ' a' w',Inv X e0 γ0 w0 s' γ' a' w'->Q .normal a' w'):(Code.region id ops draw).wp X.P Q a w:=by
 simp only [xt] at hK
 cases hc:fC (lJ ops.toList)&&(sJ X.nt (lJ ops.toList)&&(Nat.ble X.nt 1500&&LX 0 ops.toList)) with
 | false=>simp only [hc] at hK; exact (bQ r0 hK).elim
 | true =>
  simp only [hc] at hK
  have hr:=Xr hc
  obtain ⟨oc,rP⟩:=mP (X:=X) hE.Gf ops draw ops.toList S []
  cases oc with
  | none =>
   refine False.elim (bQ r0 (α:=St) (y:=s') fun K=> ?_)
   have h1:=hK K
   have h2:=rP (aaE ops draw K)
   exact h2.symm.trans h1
  | some x =>
   obtain ⟨s1,fp1⟩:=x
   have hKs:∀ K:St×List Fp->Option R,(gF X E ops draw ops.toList S [] fun s f=>K (s,f))=K (s1,fp1):=fun K=>rP K
   cases draw with
   | false =>
    have hs:s'=⟨jb s1.tm,s1.vs,s1.rs⟩:=(jd r0 fun K=>(by
     have h1:=hK K
     have h2:=rP fun x=>K ⟨jb x.1.tm,x.1.vs,x.1.rs⟩
     exact h1.symm.trans h2))
    refine wp_region ?_
    have:=O2 r0 hX hE hr (Q:=Q) (s':=s1) (fp':=fp1) (fun γ' a' w' LN=>hQ (hs▸AY s1) γ' a' w' (hs▸LN.drop)) ops.toList [] S γ a w [] (by simp) hI (vZ Z4) hKs
    rw [List.range_eq_range']
    simpa using this
   | true =>
    have hs:(oF 0 ops.toList&&(sQ (lR [] ops.toList) 0 ops.toList&&gH (lR [] ops.toList) 0 [] fp1))=true/\s'=⟨jb s1.tm,s1.vs,s1.rs⟩:=by
     cases fy:oF 0 ops.toList&&(sQ (lR [] ops.toList) 0 ops.toList&&gH (lR [] ops.toList) 0 [] fp1) with
     | false =>
      refine False.elim (bQ r0 (α:=St) (y:=s') fun K=> ?_)
      have h1:=hK K
      have h2:=rP fun x=>match oF 0 ops.toList&&(sQ (lR [] ops.toList) 0 ops.toList&&gH (lR [] ops.toList) 0 [] x.2) with
       | true=>K ⟨jb x.1.tm,x.1.vs,x.1.rs⟩
       | false=>Option.none
      have h3:=h2.symm.trans h1
      simp only [Option.bind_some,fy] at h3
      exact h3
     | true =>
      refine ⟨rfl,jd r0 fun K=> ?_⟩
      have h1:=hK K
      have h2:=rP fun x=>match oF 0 ops.toList&&(sQ (lR [] ops.toList) 0 ops.toList&&gH (lR [] ops.toList) 0 [] x.2) with
       | true=>K ⟨jb x.1.tm,x.1.vs,x.1.rs⟩
       | false=>Option.none
      have h3:=h1.symm.trans h2
      simp only [Option.bind_some,fy] at h3
      exact h3
    obtain ⟨fy,hs⟩:=hs
    simp only [zB] at fy
    exact wp_region_any hX.mixed (R1 r0 hX hE hr hKs fy.1 fy.2.1 fy.2.2 Z4 (hI.drawn _) fun γ' a' w' LN=>hQ (hs▸AY s1) γ' a' w' (hs▸LN.drop))
end
structure B9 (X:Ctx) (γ0:Gh) (w0:World) (S:St) (γ:Gh) (a:Act) (w:World):Prop where
 rel:Rel X S.lk γ w
 top:∀ g,w.heap.size<=g->γ.O g=none
 tmp:FO X S γ a
 df:a.defers=[]
 fr:Fr γ0.O w0 γ.O w
 i4:∀ k,200000<=k->k<300000->γ.rv k=γ0.rv k
 i2:∀ k,k<1000->γ.vb k=γ0.vb k
def I3 (e0:Lk) (γ0:Gh) (S:St) (γ:Gh):Prop:=∀ k row,100000<=k->k<400000->S.lk.r k=some row->row.ow=1->e0.r k=some row/\γ.rv k=γ0.rv k/\γ.cv k=γ0.cv k
theorem Inv.SL {e0:Lk} {γ0:Gh} {w0:World} {a:Act} (h:Inv X e0 γ0 w0 S γ a w):B9 X γ0 w0 S γ a w:=⟨h.rel,h.top,h.tmp,h.df,h.fr,h.i4,h.i2⟩
theorem B9.inv {e0:Lk} {γ0:Gh} {w0:World} {a:Act} (h:B9 X γ0 w0 S γ a w) (h3:I3 e0 γ0 S γ):Inv X e0 γ0 w0 S γ a w:=⟨h.rel,h.top,h.tmp,h.df,h.fr,h3,h.i4,h.i2⟩
theorem Jm {γ0:Gh} {w0:World} {a:Act} (h:B9 X γ0 w0 S γ a w):B9 X γ0 w0 ⟨[],[],[]⟩ γ a w :=
 ⟨⟨fun k cs hk=>(by cases hk),fun k row hk=>(by cases hk)⟩,h.top,⟨h.tmp.1,fun t av ht=>(by cases ht)⟩,h.df,h.fr,h.i4,h.i2⟩
theorem cX.P2 {a:Rb} {O O':OM} {r k d:Nat} {row:Row} {v:Value} {cs:List Value} (h:cX X O w r row v cs) (ha:eG row.ow=true->a.r r=some (k,d)) (hle:oq d row.ow=true\/(d=row.ow/\eG row.ow=false/\row.ow≠3))
  (hb:∀ g o,w.heap[g]? =some o->R9 r row.ow (O g)->w'.heap[g]? =some o/\O' g=(O g).bind a.f):cX X O' w' k { row with ow:=d } v cs:=by
 rcases hle with hle | ⟨rfl,ho,h3⟩
 ·exact h.relabel ha hle hb
 ·obtain ⟨τ,xs,ow⟩:=row
  simp only at ho h3 ⊢
  have ac0:ow≠4/\ow≠5:=by constructor<;>(rintro rfl; simp [eG] at ho)
  have tc:∀ k,dU k ow= .ni:=by
   intro k; simp only [dU,ho]
   try (split<;>first | exact absurd rfl h3 | rfl)
  have nc:∀ k e c,dY k e c ow= .ni:=by
   intro k e c; simp only [dY]
   try (split<;>first | rfl | (exfalso; omega))
  have cl:∀ g,In .ni (O g)->In .ni ((O g).bind a.f):=by
   intro g hg
   rcases hg with hg | hg<;>rw [hg]
   ·exact .inl rfl
   ·exact .inr rfl
  refine ⟨h.top.re (c':=dU k ow) (fun g o hg hi=> ?_) (by rw [tc]; exact fun h=>(by cases h)),fun e c ct he hc=> ?_⟩
  ·obtain ⟨h1,h2⟩:=hb g o hg (.inl hi); simp only [tc] at hi; exact ⟨h1,by rw [h2,tc]; exact cl g hi⟩
  ·obtain ⟨u,hu,hr⟩:=h.rU e c ct he hc
   exact ⟨u,hu,hr.re (c':=dY k e c ow) (fun g o hg hi=>by obtain ⟨h1,h2⟩:=hb g o hg (.inr ⟨e,c,hi⟩); simp only [nc] at hi; exact ⟨h1,by rw [h2,nc]; exact cl g hi⟩) (by rw [nc]; exact fun h=>(by cases h))⟩
structure XR (S T:St) (μ:Nat->Option Nat) (κ:Nat->Nat) (f:Cv->Cv):Prop where
 inj:∀ r r' k,μ r=some k->μ r'=some k->r=r'
 r1:∀ k row',T.lk.r k=some row'->∃ r row,μ r=some k/\S.lk.r r=some row/\row'={ row with ow:=κ r }
 r2:∀ r k row,μ r=some k->S.lk.r r=some row->T.lk.r k=some { row with ow:=κ r }
 kk:∀ r k row,μ r=some k->S.lk.r r=some row->oq (κ r) row.ow=true\/(κ r=row.ow/\eG row.ow=false/\row.ow≠3)
 v1:∀ k cs',T.lk.v k=some cs'->∃ cs,S.lk.v k=some cs/\cs'=cs.map f
 t1:∀ t av',lk T.tm t=some av'->∃ av,lk S.tm t=some av/\av'=kC f av
 fu:f .un= .un
 fr:∀ x,f x= .un\/(f x=x/\x.row=none/\∀ k∈x.vk,∀ cs,S.lk.v k=some cs->∃ cs',T.lk.v k=some cs')\/∃ r k,μ r=some k /\
  ((x= .sw r/\f x= .sw k)\/(∃ o n,x= .sl r o n/\f x= .sl k o n)\/(∃ e c,x= .nw r e c/\f x= .nw k e c)\/(∃ e c o n,x= .ns r e c o n/\f x= .ns k e c o n) \/
   (∃ e c,x= .pe r e c/\f x= .pe k e c)\/∃ e c o n,x= .pn r e c o n/\f x= .pn k e c o n)
 i4:∀ r k,μ r=some k->200000<=k->k<300000->r=k
theorem XR.ok {γ0:Gh} {w0:World} {a:Act} {μ:Nat->Option Nat} {κ:Nat->Nat} {f:Cv->Cv} (hn:XR S T μ κ f) (h:B9 X γ0 w0 S γ a w) :
  ∃ γ',B9 X γ0 w0 T γ' a w/\∀ r k row,μ r=some k->S.lk.r r=some row->γ'.rv k=γ.rv r/\γ'.cv k=γ.cv r:=by
 classical
 let rb:Rb:=⟨fun r=>match μ r,S.lk.r r with | some k,some _=>some (k,κ r) | _,_=>none,none,fun k=>some (.v k)⟩
 let pre:Nat->Nat:=fun k=>if hk:∃ r,μ r=some k then Classical.choose hk else k
 have xS:∀ r k,μ r=some k->pre k=r:=by
  intro r k hr
  have hk:∃ r,μ r=some k:=⟨r,hr⟩
  show (if hk:∃ r,μ r=some k then Classical.choose hk else k)=r
  rw [dif_pos hk]
  exact hn.inj _ _ k (Classical.choose_spec hk) hr
 let γ':Gh:=⟨fun g=>(γ.O g).bind rb.f,fun k=>γ.rv (pre k),fun k=>γ.cv (pre k),γ.vb⟩
 have xR:∀ r k,μ r=some k->γ'.rv k=γ.rv r/\γ'.cv k=γ.cv r:=by
  intro r k hr
  exact ⟨by show γ.rv (pre k)=_; rw [xS r k hr],by show γ.cv (pre k)=_; rw [xS r k hr]⟩
 have qv:∀ x v,bu S.lk γ x v->bu T.lk γ' (f x) v:=by
  intro x v hx
  rcases hn.fr x with he | ⟨he,br,hvk⟩ | ⟨r,k,hr,hc⟩
  ·rw [he]; exact hx.one h.rel
  ·rw [he]
   refine hx.re (fun r hr=>by rw [br] at hr; cases hr) (fun r hr=>by rw [br] at hr; cases hr) fun k hk=>⟨hvk k hk,rfl⟩
  ·obtain ⟨h1,h2⟩:=xR r k hr
   rcases hc with ⟨rfl,he⟩ | ⟨o,n,rfl,he⟩ | ⟨e,c,rfl,he⟩ | ⟨e,c,o,n,rfl,he⟩ | ⟨e,c,rfl,he⟩ | ⟨e,c,o,n,rfl,he⟩<;>rw [he]
   ·obtain ⟨⟨row,br⟩,hv⟩:=hx
    exact ⟨⟨_,hn.r2 r k row hr br⟩,by rw [h1]; exact hv⟩
   ·obtain ⟨row,br,hle,hs⟩:=hx
    exact ⟨_,hn.r2 r k row hr br,hle,by rw [h1]; exact hs⟩
   ·obtain ⟨row,τ,ys,br,hle,hs,hu⟩:=hx
    exact ⟨_,τ,ys,hn.r2 r k row hr br,hle,hs,by rw [h2]; exact hu⟩
   ·obtain ⟨row,τ,ys,u,br,hle,hs,hu,h5,h6⟩:=hx
    exact ⟨_,τ,ys,u,hn.r2 r k row hr br,hle,hs,by rw [h2]; exact hu,h5,h6⟩
   ·obtain ⟨row,br,hle,hs⟩:=hx
    exact ⟨_,hn.r2 r k row hr br,hle,by rw [h1]; exact hs⟩
   ·obtain ⟨row,τ,ys,u,br,hle,hs,hu,h5,h6⟩:=hx
    exact ⟨_,τ,ys,u,hn.r2 r k row hr br,hle,hs,by rw [h2]; exact hu,h5,h6⟩
 refine ⟨γ',⟨⟨fun k cs' hk=> ?_,fun k row' hk=> ?_⟩,fun g hg=> ?_,⟨h.tmp.1,fun t av' ht=> ?_⟩,h.df,⟨h.fr.os,h.fr.tape,h.fr.output,h.fr.size,fun g hg ho=> ?_,fun g hg=> ?_⟩,fun k h1 h2=> ?_,h.i2⟩,fun r k row hr _=>xR r k hr⟩
 ·obtain ⟨cs,je,rfl⟩:=hn.v1 k cs' hk
  obtain ⟨h1,cur,e,h2,h3⟩:=h.rel.vs k cs je
  exact ⟨by show (γ.O (γ.vb k)).bind rb.f=_; rw [h1]; rfl,cur,e,h2,h3.map qv⟩
 ·obtain ⟨r,row,hr,br,rfl⟩:=hn.r1 k row' hk
  obtain ⟨h1,h2⟩:=xR r k hr
  rw [h1,h2]
  refine (h.rel.rs r row br).P2 (a:=rb) (O':=γ'.O) (k:=k) (d:=κ r) (fun _=> ?_) (hn.kk r k row hr br) fun g o hg _=>⟨hg,rfl⟩
  show (match μ r,S.lk.r r with | some k,some _=>some (k,κ r) | _,_=>none)=_
  rw [hr,br]
 ·show (γ.O g).bind rb.f=none
  rw [h.top g hg]; rfl
 ·obtain ⟨av,QM,rfl⟩:=hn.t1 t av' ht
  exact (h.tmp.2 t av QM).map qv hn.fu
 ·obtain ⟨h1,h2⟩:=h.fr.pd g hg ho
  refine ⟨?_,h2⟩
  show (γ.O g).bind rb.f=_
  rw [h1]
  rcases ho with ho | ho | ho<;>rw [ho]<;>rfl
 ·show (γ.O g).bind rb.f=none
  rw [h.fr.top g hg]; rfl
 ·show γ.rv (pre k)=_
  by_cases hk:∃ r,μ r=some k
  ·obtain ⟨r,hr⟩:=hk
   rw [xS r k hr,hn.i4 r k hr h1 h2]; exact h.i4 k h1 h2
  ·show γ.rv (if hk:∃ r,μ r=some k then Classical.choose hk else k)=_
   rw [dif_neg hk]; exact h.i4 k h1 h2
end Go.Soft
namespace Go.Soft
open Go
variable {X:Ctx} {m M:Lk} {γ γ':Gh} {w w':World} {ρ:Operand->Value} {S T:St} {δ δ':Dl}
theorem FJ:∀ {a b:List Nat},F4 a b=true->a=b
 | [],[],_=>rfl
 | x::l,y::m,h=>by simp only [F4,zB] at h; rw [aM h.1,FJ h.2]
 | [],_::_,h=>by simp [F4] at h
 | _::_,[],h=>by simp [F4] at h
theorem Px {x:Cv} {sh:Sh} (h:SH (WZ x).1 sh=true) (l:List nk):ZJ sh ((WZ x).2++l)=some (x,l):=by
 cases x<;>cases sh<;>simp only [WZ,SH,Bool.false_eq_true,zB] at h<;>simp only [WZ,ZJ,List.cons_append,List.nil_append,zA,zG,and_true]
 case nl.nl a b=>rw [Cm h]
 case sw.sw=>rw [aM h]
 case sl.sl=>rw [aM h]
 case nw.nw=>rw [aM h.1,aM h.2]
 case ns.ns=>rw [aM h.1,aM h.2]
 case pv.pv=>rw [aM h.1,aM h.2]
 case pe.pe=>rw [aM h.1,aM h.2]
 case pn.pn=>rw [aM h.1,aM h.2.1,aM h.2.2]
 case fn.fn=>rw [aM h.1,FJ h.2]
theorem Fy:∀ {x:List Cv} {sh:List Sh},TU (Ri x).1 sh=true->∀ l:List nk,W2 sh ((Ri x).2++l)=some (x,l)
 | [],[],_,l=>rfl
 | x::xs,a::b,h,l=>by
  simp only [Ri,TU,zB] at h
  simp only [Ri,W2,List.append_assoc,Px h.1,Fy h.2]
 | [],_::_,h,_=>by simp [Ri,TU] at h
 | _::_,[],h,_=>by simp [Ri,TU] at h
theorem Pr:∀ {x:List (Bool×List Cv)} {sh:List (Bool×List Sh)},MS (TP x).1 sh=true->∀ l:List nk,ZK sh ((TP x).2++l)=some (x,l)
 | [],[],_,l=>rfl
 | (t,x)::xs,(u,a)::b,h,l=>by
  simp only [TP,MS,zB] at h
  have QK:t=u:=by cases t<;>cases u<;>simp_all
  simp only [TP,ZK,List.append_assoc,Fy h.2.1,Pr h.2.2,QK]
 | [],_::_,h,_=>by simp [TP,MS] at h
 | _::_,[],h,_=>by simp [TP,MS] at h
def AV.plain:AV->Prop
 | .g .. =>False
 | _=>True
theorem Vy:∀ {x:AV} {sh:OO},x.plain->P0 (JK x).1 sh=true->∀ l:List nk,XF sh ((JK x).2++l)=some (x,l)
 | .c x,.c a,_,h,l=>by simp only [JK,P0] at h; simp only [JK,XF,Px h]
 | .a x,.a a,_,h,l=>by simp only [JK,P0] at h; simp only [JK,XF,Fy h]
 | .t x,.t a,_,h,l=>by simp only [JK,P0] at h; simp only [JK,XF,Pr h]
 | .g ..,_,hp,_,_=>hp.elim
 | .c x,.a _,_,h,_=>by simp [JK,P0] at h
 | .c x,.t _,_,h,_=>by simp [JK,P0] at h
 | .a x,.c _,_,h,_=>by simp [JK,P0] at h
 | .a x,.t _,_,h,_=>by simp [JK,P0] at h
 | .t x,.c _,_,h,_=>by simp [JK,P0] at h
 | .t x,.a _,_,h,_=>by simp [JK,P0] at h
def Rg (l:List (Nat×AV)):Prop:=∀ p∈l,p.2.plain
theorem Lf:∀ {x:List (Nat×AV)} {sh:List (Nat×OO)},Rg x->Ma (G6 x).1 sh=true->∀ l:List nk,RL sh ((G6 x).2++l)=some (x,l)
 | [],[],_,_,l=>rfl
 | (t,x)::xs,(u,a)::b,hp,h,l=>by
  simp only [G6,Ma,zB] at h
  have QK:=aM h.1
  simp only [G6,RL,List.append_assoc,Vy (hp _ zO) h.2.1,Lf (fun p hm=>hp p (zJ _ hm)) h.2.2,QK]
 | [],_::_,_,h,_=>by simp [G6,Ma] at h
 | _::_,[],_,h,_=>by simp [G6,Ma] at h
theorem Ko:∀ {x:List (Nat×List Cv)} {sh:List (Nat×List Sh)},Ml (Ht x).1 sh=true->∀ l:List nk,RY sh ((Ht x).2++l)=some (x,l)
 | [],[],_,l=>rfl
 | (t,x)::xs,(u,a)::b,h,l=>by
  simp only [Ht,Ml,zB] at h
  have QK:=aM h.1
  simp only [Ht,RY,List.append_assoc,Fy h.2.1,Ko h.2.2,QK]
 | [],_::_,h,_=>by simp [Ht,Ml] at h
 | _::_,[],h,_=>by simp [Ht,Ml] at h
def sH:List (Nat×Row)->List (Nat×(Ty×Nat))->List (Nat×Row)
 | (k,row)::l,(_,(_,d))::m=>(k,{ row with ow:=d })::sH l m
 | _,_=>[]
theorem Ks:∀ {x:List (Nat×Row)} {sh:List (Nat×(Ty×Nat))},yG (vB x).1 sh=true->R6 sh (vB x).2=some (sH x sh)
 | [],[],_=>rfl
 | (t,x)::xs,(u,(a,d))::b,h=>by
  simp only [vB,yG,zB] at h
  have QK:=aM h.1
  simp only [vB,R6,Ks h.2.2.2,sH,QK]
 | [],_::_,h=>by simp [vB,yG] at h
 | _::_,[],h=>by simp [vB,yG] at h
def FM (sh:List (Nat×(Ty×Nat))) (r:Nat):Nat:=match lk sh r with | some (_,d)=>d | none=>0
theorem G9:∀ {x:List (Nat×Row)} {sh:List (Nat×(Ty×Nat))},yG (vB x).1 sh=true->∀ k,lk (sH x sh) k=(lk x k).map fun row=>{ row with ow:=FM sh k }
 | [],[],_,k=>rfl
 | (t,x)::xs,(u,(a,d))::b,h,k=>by
  simp only [vB,yG,zB] at h
  have QK:=aM h.1
  subst QK
  have ih:=G9 h.2.2.2 k
  simp only [sH,lk,FM]
  cases hk:Nat.beq t k with
  | true=>rfl
  | false=>simp only; rw [ih]; rfl
 | [],_::_,h,_=>by simp [vB,yG] at h
 | _::_,[],h,_=>by simp [vB,yG] at h
theorem Jr:∀ {x:List (Nat×Row)} {sh:List (Nat×(Ty×Nat))},yG (vB x).1 sh=true->∀ k row,lk x k=some row->oq (FM sh k) row.ow=true/\(FM sh k=1->row.ow=1\/k<100000\/400000<=k)
 | [],_,_,k,row,h=>by cases h
 | (t,x)::xs,(u,(a,d))::b,h,k,row,hk=>by
  simp only [vB,yG,zB] at h
  have QK:=aM h.1
  subst QK
  simp only [lk] at hk
  simp only [FM,lk]
  cases hkt:Nat.beq t k with
  | true =>
   simp only [hkt,zA] at hk
   have:=aM hkt; subst this; subst hk
   obtain ⟨h1,h2,⟨h3,h4⟩,h5⟩:=h
   refine ⟨h3,fun hd=> ?_⟩
   have hd:d=1:=hd
   subst hd
   simp only [Bool.or_eq_true] at h4
   rcases h4 with h4 | h4 | h4
   ·exact .inl (aM h4)
   ·exact .inr (.inl (by have:=zQ h4; omega))
   ·exact .inr (.inr (zQ h4))
  | false =>
   simp only [hkt] at hk
   have:=Jr h.2.2.2 k row hk
   simpa [FM] using this
 | (_,_)::_,[],h,_,_,_=>by simp [vB,yG] at h
theorem L6 {sk:Sk} (hg:Rg S.tm) (h:HY (flat S).1 sk=true):B2 sk (flat S).2=some ⟨S.tm,S.vs,sH S.rs sk.rs⟩:=by
 simp only [flat,HY,zB] at h
 simp only [flat,B2,Lf hg h.1,Ko h.2.1,Ks h.2.2]
theorem My {sk:Sk} (h:HY (flat S).1 sk=true) {e0:Lk} {γ0:Gh} {w0:World} {a:Act} (hI:Inv X e0 γ0 w0 S γ a w):∃ γ',Inv X e0 γ0 w0 ⟨S.tm,S.vs,sH S.rs sk.rs⟩ γ' a w:=by
 simp only [flat,HY,zB] at h
 have hr:∀ k,(St.mk S.tm S.vs (sH S.rs sk.rs)).lk.r k=(S.lk.r k).map fun row=>{ row with ow:=FM sk.rs k }:=fun k=>G9 h.2.2 k
 have hn:XR S ⟨S.tm,S.vs,sH S.rs sk.rs⟩ some (FM sk.rs) id:=by
  refine ⟨fun r r' k h1 h2=>by cases h1; cases h2; rfl,fun k row' hk=> ?_,fun r k row h1 h2=> ?_,fun r k row h1 h2=> .inl (Jr h.2.2 r row h2).1,fun k cs' hk=>⟨cs',hk,by simp⟩,
   fun t av' ht=>⟨av',ht,(Au (fun _=>rfl) _).symm⟩,rfl,fun x=> ?_,fun r k h _ _=>by cases h; rfl⟩
  ·rw [hr] at hk
   cases hl:S.lk.r k with
   | none=>rw [hl] at hk; cases hk
   | some row=>rw [hl] at hk; cases hk; exact ⟨k,row,rfl,hl,rfl⟩
  ·cases h1; rw [hr,h2]; rfl
  ·cases x with
   | sw r=>exact .inr (.inr ⟨r,r,rfl,.inl ⟨rfl,rfl⟩⟩)
   | sl r o n=>exact .inr (.inr ⟨r,r,rfl,.inr (.inl ⟨o,n,rfl,rfl⟩)⟩)
   | nw r o n=>exact .inr (.inr ⟨r,r,rfl,.inr (.inr (.inl ⟨o,n,rfl,rfl⟩))⟩)
   | ns r e c o n=>exact .inr (.inr ⟨r,r,rfl,.inr (.inr (.inr (.inl ⟨e,c,o,n,rfl,rfl⟩)))⟩)
   | pe r o n=>exact .inr (.inr ⟨r,r,rfl,.inr (.inr (.inr (.inr (.inl ⟨o,n,rfl,rfl⟩))))⟩)
   | pn r e c o n=>exact .inr (.inr ⟨r,r,rfl,.inr (.inr (.inr (.inr (.inr ⟨e,c,o,n,rfl,rfl⟩))))⟩)
   | _=>exact .inr (.inl ⟨rfl,rfl,fun k _ cs je=>⟨cs,je⟩⟩)
 obtain ⟨γ',h1,h2⟩:=hn.ok hI.SL
 refine ⟨γ',h1.inv fun k row' wq so Dz Nu=> ?_⟩
 rw [hr] at Dz
 cases hl:S.lk.r k with
 | none=>rw [hl] at Dz; cases Dz
 | some row =>
  rw [hl] at Dz; cases Dz
  have Nu:FM sk.rs k=1:=Nu
  have h5:row.ow=1:=by
   rcases (Jr h.2.2 k row hl).2 Nu with h | h | h
   ·exact h
   ·omega
   ·omega
  obtain ⟨i1,i2,i3⟩:=hI.i3 k row wq so hl h5
  obtain ⟨j1,j2⟩:=h2 k k row rfl hl
  exact ⟨by rw [i1,Nu,← h5],by rw [j1,i2],by rw [j2,i3]⟩
theorem KX (a:Nat):oq a a=true\/(a=a/\eG a=false/\a≠3):=by
 rcases a with _|_|_|_|_|_|a
 ·exact .inr ⟨rfl,rfl,by omega⟩
 ·exact .inl rfl
 ·exact .inl rfl
 ·exact .inl rfl
 ·exact .inl rfl
 ·exact .inl rfl
 ·exact .inr ⟨rfl,rfl,by omega⟩
def yw (fz:List Nat) (k:Nat) (row:Row):Bool:=match cp k fz&&(Nat.ble 1 row.ow&&Nat.ble row.ow 5),Nat.ble 300000 k&&(Nat.ble k 399999&&Nat.beq row.ow 2) with
 | true,false=>true
 | _,_=>false
theorem DV (fz:List Nat):∀ (l:List (Nat×Row)) (k:Nat),lk (freeze fz l) k=(lk l k).map fun row=>bif yw fz k row then { row with ow:=PU row.ow } else row
 | [],k=>rfl
 | (j,row)::l,k=>by
  have ih:=DV fz l k
  have:freeze fz ((j,row)::l)=(j,bif yw fz j row then { row with ow:=PU row.ow } else row)::freeze fz l:=by
   simp only [freeze,yw]
   generalize (cp j fz&&(Nat.ble 1 row.ow&&Nat.ble row.ow 5))=b1
   generalize (Nat.ble 300000 j&&(Nat.ble j 399999&&Nat.beq row.ow 2))=b2
   cases b1<;>cases b2<;>rfl
  rw [this]
  simp only [lk,ih]
  cases hj:Nat.beq j k with
  | true=>have:=aM hj; subst this; rfl
  | false=>rfl
theorem Va {a:Nat} (h1:1<=a) (h2:a<=5):oq (PU a) a=true:=by
 rcases a with _|_|_|_|_|_|a
 ·omega
 ·rfl
 ·rfl
 ·rfl
 ·rfl
 ·rfl
 ·omega
theorem VK {f:Cv->Cv} (hf:∀ x,f x=x) {μ:Nat->Option Nat} (hμ:∀ r,μ r=some r) (hv:∀ k cs,S.lk.v k=some cs->∃ cs',T.lk.v k=some cs') (x:Cv) :
  f x= .un\/(f x=x/\x.row=none/\∀ k∈x.vk,∀ cs,S.lk.v k=some cs->∃ cs',T.lk.v k=some cs')\/∃ r k,μ r=some k /\
  ((x= .sw r/\f x= .sw k)\/(∃ o n,x= .sl r o n/\f x= .sl k o n)\/(∃ e c,x= .nw r e c/\f x= .nw k e c)\/(∃ e c o n,x= .ns r e c o n/\f x= .ns k e c o n) \/
   (∃ e c,x= .pe r e c/\f x= .pe k e c)\/∃ e c o n,x= .pn r e c o n/\f x= .pn k e c o n):=by
 have h:=hf x
 cases x with
 | sw r=>exact .inr (.inr ⟨r,r,hμ r,.inl ⟨rfl,h⟩⟩)
 | sl r o n=>exact .inr (.inr ⟨r,r,hμ r,.inr (.inl ⟨o,n,rfl,h⟩)⟩)
 | nw r o n=>exact .inr (.inr ⟨r,r,hμ r,.inr (.inr (.inl ⟨o,n,rfl,h⟩))⟩)
 | ns r e c o n=>exact .inr (.inr ⟨r,r,hμ r,.inr (.inr (.inr (.inl ⟨e,c,o,n,rfl,h⟩)))⟩)
 | pe r o n=>exact .inr (.inr ⟨r,r,hμ r,.inr (.inr (.inr (.inr (.inl ⟨o,n,rfl,h⟩))))⟩)
 | pn r e c o n=>exact .inr (.inr ⟨r,r,hμ r,.inr (.inr (.inr (.inr (.inr ⟨e,c,o,n,rfl,h⟩))))⟩)
 | _=>exact .inr (.inl ⟨h,rfl,fun k _ cs je=>hv k cs je⟩)
def I3v (e0:Lk) (γ0:Gh) (S:St) (γ:Gh):Prop:=∀ k row,300000<=k->k<400000->S.lk.r k=some row->row.ow=1->e0.r k=some row/\γ.rv k=γ0.rv k/\γ.cv k=γ0.cv k
theorem LW {e0:Lk} {γ0:Gh} {w0:World} {a:Act} (fz:List Nat) (hI:Inv X e0 γ0 w0 S γ a w):∃ γ',B9 X γ0 w0 (S.freeze fz) γ' a w/\I3v e0 γ0 (S.freeze fz) γ':=by
 have done:∃ γ',B9 X γ0 w0 S γ' a w/\I3v e0 γ0 S γ':=⟨γ,hI.SL,fun k row h1 h2=>hI.i3 k row (by omega) h2⟩
 cases YL:fz with
 | nil=>exact done
 | cons t l =>
  simp only [St.freeze]
  generalize Jn (sm S.get (t::l))=ks
  let T:St:=⟨S.tm,S.vs,Soft.freeze ks S.rs⟩
  have hr:∀ k,T.lk.r k=(S.lk.r k).map fun row=>bif yw ks k row then { row with ow:=PU row.ow } else row:=fun k=>DV ks S.rs k
  let κ:Nat->Nat:=fun r=>match S.lk.r r with | some row=>(bif yw ks r row then PU row.ow else row.ow) | none=>0
  have hκ:∀ r row,S.lk.r r=some row->κ r=bif yw ks r row then PU row.ow else row.ow:=by
   intro r row hr
   show (match S.lk.r r with | some row=>(bif yw ks r row then PU row.ow else row.ow) | none=>0)=_
   rw [hr]
  have br:∀ r row,S.lk.r r=some row->(bif yw ks r row then { row with ow:=PU row.ow } else row)={ row with ow:=κ r }:=by
   intro r row hr
   rw [hκ r row hr]
   cases yw ks r row<;>rfl
  have hn:XR S T some κ id:=by
   refine ⟨fun r r' k h1 h2=>by cases h1; cases h2; rfl,fun k row' hk=> ?_,fun r k row h1 h2=> ?_,fun r k row h1 h2=> ?_,fun k cs' hk=>⟨cs',hk,by simp⟩,
    fun t av' ht=>⟨av',ht,(Au (fun _=>rfl) _).symm⟩,rfl,VK (fun _=>rfl) (fun _=>rfl) fun k cs h=>⟨cs,h⟩,fun r k h _ _=>by cases h; rfl⟩
   ·rw [hr] at hk
    cases hl:S.lk.r k with
    | none=>rw [hl] at hk; cases hk
    | some row=>rw [hl] at hk; cases hk; exact ⟨k,row,rfl,hl,br k row hl⟩
   ·cases h1; rw [hr,h2]; exact congrArg some (br r row h2)
   ·rw [hκ r row h2]
    cases hf:yw ks r row with
    | false=>exact KX row.ow
    | true =>
     refine .inl ?_
     simp only [yw] at hf
     revert hf; split
     ·rename_i h1 _
      intro _
      simp only [zB] at h1
      exact Va (zQ h1.2.1) (zQ h1.2.2)
     ·intro h; cases h
  obtain ⟨γ',h1,h2⟩:=hn.ok hI.SL
  refine ⟨γ',h1,fun k row' wq so Dz Nu=> ?_⟩
  have Dz:T.lk.r k=some row':=Dz
  rw [hr] at Dz
  cases hl:S.lk.r k with
  | none=>rw [hl] at Dz; cases Dz
  | some row =>
   rw [hl] at Dz
   simp only [Option.map_some,zA] at Dz
   have h5:row.ow=1/\row'=row:=by
    cases hf:yw ks k row with
    | false=>rw [hf] at Dz; simp only [zF] at Dz; subst Dz; exact ⟨Nu,rfl⟩
    | true =>
     rw [hf] at Dz; simp only [zE] at Dz
     subst Dz
     have Nu:PU row.ow=1:=Nu
     have h12:row.ow=1\/row.ow=2:=by
      revert Nu; simp only [PU]; split
      ·exact fun _=> .inl (by assumption)
      ·exact fun _=> .inr (by assumption)
      ·intro h; cases h
     rcases h12 with h | h
     ·refine ⟨h,?_⟩
      obtain ⟨τ,xs,ow⟩:=row
      simp only at h; subst h; rfl
     ·exfalso
      simp only [yw] at hf
      have:(Nat.ble 300000 k&&(Nat.ble k 399999&&Nat.beq row.ow 2))=true:=by
       rw [h]; simp only [zB]
       exact ⟨Nat.ble_eq_true_of_le wq,Nat.ble_eq_true_of_le (by omega),rfl⟩
      rw [this] at hf
      revert hf
      cases (cp k ks&&(Nat.ble 1 row.ow&&Nat.ble row.ow 5))<;>simp
   obtain ⟨h5,rfl⟩:=h5
   obtain ⟨i1,i2,i3⟩:=hI.i3 k row' (by omega) so hl h5
   obtain ⟨j1,j2⟩:=h2 k k row' rfl hl
   exact ⟨i1,by rw [j1,i2],by rw [j2,i3]⟩
inductive DE (X:Ctx) (O:OM) (w:World):List (Nat×Row)->List (Nat×(Value×List Value))->Prop
 | nil:DE X O w [] []
 | cons {k:Nat} {row:Row} {v:Value} {cs:List Value} {rs:List (Nat×Row)} {V:List (Nat×(Value×List Value))}:cX X O w k row v cs->DE X O w rs V->DE X O w ((k,row)::rs) ((k,(v,cs))::V)
theorem DE.append {O:OM} {rs rs':List (Nat×Row)} {V V':List (Nat×(Value×List Value))} (h:DE X O w rs V) (h':DE X O w rs' V'):DE X O w (rs++rs') (V++V'):=by
 induction h with
 | nil=>exact h'
 | cons hr _ ih=>exact .cons hr ih
theorem DE.keys {O:OM} {rs:List (Nat×Row)} {V:List (Nat×(Value×List Value))} (h:DE X O w rs V):keys V=Soft.keys rs:=by
 induction h with
 | nil=>rfl
 | cons _ _ ih=>simp [Soft.keys,ih]
theorem DE.get {O:OM} {rs:List (Nat×Row)} {V:List (Nat×(Value×List Value))} (h:DE X O w rs V):∀ k row,lk rs k=some row->∃ vc,lk V k=some vc/\cX X O w k row vc.1 vc.2:=by
 induction h with
 | nil=>intro k row h; cases h
 | cons hr _ ih =>
  rename_i j _ v cs _ _ _
  intro k row hk
  simp only [lk] at hk ⊢
  cases hj:Nat.beq j k with
  | true =>
   simp only [hj,zA] at hk ⊢
   have:=aM hj; subst this; subst hk
   exact ⟨_,rfl,hr⟩
  | false=>simp only [hj] at hk ⊢; exact ih k row hk
structure Ag (m:Lk) (γ:Gh) (rs:List (Nat×Row)) (V:List (Nat×(Value×List Value))) (m1:Lk) (γ1:Gh):Prop where
 r:∀ r row,m.r r=some row->m1.r r=some row/\γ1.rv r=γ.rv r/\γ1.cv r=γ.cv r
 v:∀ k cs,m.v k=some cs->∃ cs',m1.v k=some cs'
 vb:γ1.vb=γ.vb
 n:∀ k row,(k,row)∈rs->m1.r k=some row
 g:∀ k vc,(k,vc)∈V->γ1.rv k=vc.1/\γ1.cv k=vc.2
variable {m1:Lk} {γ1:Gh} {rs rs':List (Nat×Row)} {V V':List (Nat×(Value×List Value))}
theorem Ag.left (h:Ag m γ (rs++rs') (V++V') m1 γ1):Ag m γ rs V m1 γ1:=⟨h.r,h.v,h.vb,fun k row hm=>h.n k row (List.mem_append_left _ hm),fun k vc hm=>h.g k vc (List.mem_append_left _ hm)⟩
theorem Ag.right (h:Ag m γ (rs++rs') (V++V') m1 γ1):Ag m γ rs' V' m1 γ1:=⟨h.r,h.v,h.vb,fun k row hm=>h.n k row (List.mem_append_right _ hm),fun k vc hm=>h.g k vc (List.mem_append_right _ hm)⟩
theorem Ag.sA (h:Ag m γ rs V m1 γ1) {x:Cv} {v:Value} (hx:bu m γ x v):bu m1 γ1 x v :=
 hx.re (fun r _=>⟨fun row hr=>⟨row,(h.r r row hr).1,rfl,Nat.le_refl _⟩,by
  cases Al:m.r r with
  | some row=>exact (h.r r row Al).2.1
  | none =>
   exfalso
   rename_i br
   revert hx
   cases x<;>simp only [Cv.row,zA,reduceCtorEq] at br<;>subst br<;>simp [bu,Al]⟩)
  (fun r _ _=>⟨fun row row' h1 h2 e c τ ys he hc=>by
   have h3:=h.r r row h1
   rw [h3.1] at h2; cases h2
   exact ⟨⟨ys,hc,Nat.le_refl _⟩,by rw [h3.2.2]⟩⟩) fun k _=>⟨fun cs je=>h.v k cs je,by rw [h.vb]⟩
theorem Ag.acb (h:Ag m γ rs V m1 γ1) {x:AV} {v:Value} (hx:bq m γ x v):bq m1 γ1 x v:=by
 have:=bq.map (f:=id) (fun x v hx=>h.sA hx) rfl hx
 rwa [Au (f:=id) (fun _=>rfl)] at this
theorem PY (hR:Rel X m γ w) {x y:Cv} {v:Value} {k:Nat} {rs:List (Nat×Row)} (hx:bu m γ x v) (h:m.Nb k x=(y,rs)) :
  ∃ V,DE X γ.O w rs V/\∀ m1 γ1,Ag m γ rs V m1 γ1->bu m1 γ1 y v:=by
 have same:∀ {y:Cv} {rs:List (Nat×Row)},(x,[])=(y,rs)->∃ V,DE X γ.O w rs V/\∀ m1 γ1,Ag m γ rs V m1 γ1->bu m1 γ1 y v:=by
  intro y rs h
  cases h
  exact ⟨[],.nil,fun m1 γ1 ha=>ha.sA hx⟩
 have new:∀ {row:Row} {cs:List Value} {y:Cv} {rs:List (Nat×Row)},cX X γ.O w k row v cs->(Cv.sw k,[(k,row)])=(y,rs)->∃ V,DE X γ.O w rs V/\∀ m1 γ1,Ag m γ rs V m1 γ1->bu m1 γ1 y v:=by
  intro row cs y rs hr h
  cases h
  exact ⟨[(k,(v,cs))],.cons hr .nil,fun m1 γ1 ha=>⟨⟨row,ha.n k row (by simp)⟩,(ha.g k (v,cs) (by simp)).1.symm⟩⟩
 have ni:∀ {τ:Ty} {ys:List (El τ)},m.Ni x=true->(∃ r,x.row=some r)->(m.vw x).ct=some (.l τ ys)->∃ cs,cX X γ.O w k ⟨τ,ys,match x.row with | some r=>(match m.r r with | some row=>row.ow | none=>1) | none=>1⟩ v cs:=by
  intro τ ys hi br hc
  obtain ⟨r,br⟩:=br
  simp only [Lk.Ni,br] at hi ⊢
  cases hr:m.r r with
  | none=>simp [hr] at hi
  | some row =>
   simp only [hr] at hi ⊢
   revert hi; split
   ·rename_i h1
    intro _
    obtain ⟨cs,hv⟩:=Fk (Le.refl m) hR hx (A:=fun g=>In .ni (γ.O g)) (fun r' row' g cC Al hi=>by
     rw [br] at Al; cases Al
     rw [hr] at cC; cases cC
     rw [h1] at hi
     rcases hi with hi | ⟨_,_,hi⟩<;>exact hi) hc
    rw [h1]; exact ⟨cs,hv.Js⟩
   ·rename_i h1
    intro _
    obtain ⟨cs,hv⟩:=Fk (Le.refl m) hR hx (A:=fun g=>In .fz (γ.O g)) (fun r' row' g cC Al hi=>by
     rw [br] at Al; cases Al
     rw [hr] at cC; cases cC
     rw [h1] at hi
     rcases hi with hi | ⟨_,_,hi⟩<;>exact hi) hc
    rw [h1]; exact ⟨cs,hv.X7⟩
   ·intro h; cases h
 cases x with
 | nl τ =>
  simp only [Lk.Nb] at h
  have hv:v= .slice none 0 0:=hx
  exact new (by rw [hv]; exact cX.nil X γ.O w k τ 5) h
 | sw r =>
  simp only [Lk.Nb] at h
  cases hr:m.r r with
  | none=>simp only [hr] at h; exact same h
  | some row =>
   simp only [hr] at h
   have br:=hR.rs r row hr
   obtain ⟨_,hv⟩:=hx
   have UB:row.ow=1\/row.ow=3->cX X γ.O w k row v (γ.cv r):=by
    intro ho
    rw [hv]
    have:=br.re (k':=k) (dS:=row.ow) (w':=w) (O':=γ.O) (by rcases ho with ho | ho<;>rw [ho]<;>rfl) (fun g o hg hi=>⟨hg,by rcases ho with ho | ho<;>rw [ho] at hi ⊢<;>exact hi⟩)
     (fun e c g o hg hi=>⟨hg,by rcases ho with ho | ho<;>rw [ho] at hi ⊢<;>exact hi⟩)
    exact this
   revert h; split
   ·rename_i h1; exact fun h=>new (UB (.inl h1)) h
   ·rename_i h1; exact fun h=>new (UB (.inr h1)) h
   ·exact fun h=>same h
 | sl r o n =>
  simp only [Lk.Nb] at h
  revert h; split
  ·rename_i hi hc
   intro h
   obtain ⟨cs,hr⟩:=ni hi ⟨r,rfl⟩ hc
   exact new hr h
  ·exact fun h=>same h
 | nw r o n =>
  simp only [Lk.Nb] at h
  revert h; split
  ·rename_i hi hc
   intro h
   obtain ⟨cs,hr⟩:=ni hi ⟨r,rfl⟩ hc
   exact new hr h
  ·exact fun h=>same h
 | ns r e c o n =>
  simp only [Lk.Nb] at h
  revert h; split
  ·rename_i hi hc
   intro h
   obtain ⟨cs,hr⟩:=ni hi ⟨r,rfl⟩ hc
   exact new hr h
  ·exact fun h=>same h
 | _=>exact same h
theorem I1 (hR:Rel X m γ w):∀ {x y:List Cv} {v:List Value} {k:Nat} {rs:List (Nat×Row)},cj m γ x v->m.PO k x=(y,rs) ->
  ∃ V,DE X γ.O w rs V/\∀ m1 γ1,Ag m γ rs V m1 γ1->cj m1 γ1 y v
 | [],y,v,k,rs,hx,h=>by cases hx; cases h; exact ⟨[],.nil,fun _ _ _=> .nil⟩
 | x::l,y,v,k,rs,hx,h=>by
  cases hx with
  | cons hx hl =>
   simp only [Lk.PO] at h
   cases h1:m.Nb k x with
   | mk a ra =>
    cases h2:m.PO (k+1) l with
    | mk b rb =>
     simp only [h1,h2] at h; cases h
     obtain ⟨V,Ij,NC⟩:=PY hR hx h1
     obtain ⟨V',Ww,YQ⟩:=I1 hR hl h2
     exact ⟨V++V',Ij.append Ww,fun m1 γ1 ha=> .cons (NC m1 γ1 ha.left) (YQ m1 γ1 ha.right)⟩
theorem Lq (hR:Rel X m γ w) {VT:Nat->Value}:∀ {x y:List (Nat×AV)} {k:Nat} {rs:List (Nat×Row)},(∀ p∈x,bq m γ p.2 (VT p.1))->m.o5 k x=(y,rs) ->
  ∃ V,DE X γ.O w rs V/\∀ m1 γ1,Ag m γ rs V m1 γ1->∀ p∈y,bq m1 γ1 p.2 (VT p.1)
 | [],y,k,rs,hx,h=>by cases h; exact ⟨[],.nil,fun _ _ _ p hp=>by cases hp⟩
 | (t,av)::l,y,k,rs,hx,h=>by
  have hl:∀ p∈l,bq m γ p.2 (VT p.1):=fun p hp=>hx p (zJ _ hp)
  have h0:bq m γ av (VT t):=hx (t,av) zO
  have rest:∀ {b:AV} {rb:List (Nat×Row)} {V:List (Nat×(Value×List Value))} {y:List (Nat×AV)} {rs:List (Nat×Row)},DE X γ.O w rb V->(∀ m1 γ1,Ag m γ rb V m1 γ1->bq m1 γ1 b (VT t)) ->
    (match m.o5 (k+64) l with | (n,rs)=>((t,b)::n,rb++rs))=(y,rs)->∃ V,DE X γ.O w rs V/\∀ m1 γ1,Ag m γ rs V m1 γ1->∀ p∈y,bq m1 γ1 p.2 (VT p.1):=by
   intro b rb V y rs Ij NC h
   cases h2:m.o5 (k+64) l with
   | mk n rc =>
    simp only [h2] at h; cases h
    obtain ⟨V',Ww,YQ⟩:=Lq hR hl h2
    refine ⟨V++V',Ij.append Ww,fun m1 γ1 ha p hp=> ?_⟩
    rcases zI.1 hp with rfl | hp
    ·exact NC m1 γ1 ha.left
    ·exact YQ m1 γ1 ha.right p hp
  have other:∀ {y:List (Nat×AV)} {rs:List (Nat×Row)},(match m.o5 (k+64) l with | (n,rs)=>((t,av)::n,rs))=(y,rs)->∃ V,DE X γ.O w rs V/\∀ m1 γ1,Ag m γ rs V m1 γ1->∀ p∈y,bq m1 γ1 p.2 (VT p.1):=by
   intro y rs h
   refine rest (b:=av) (rb:=[]) (V:=[]) .nil (fun m1 γ1 ha=>ha.acb h0) ?_
   cases h2:m.o5 (k+64) l with
   | mk n rc=>simp only [h2] at h ⊢; exact h
  cases av with
  | c x =>
   simp only [Lk.o5] at h
   cases h1:m.Nb k x with
   | mk a ra =>
    simp only [h1] at h
    by_cases hu:x= .un
    ·subst hu
     simp only [Lk.Nb,zG] at h1
     obtain ⟨rfl,rfl⟩:=h1
     exact rest (b:= .c .un) (V:=[]) .nil (fun _ _ _=>trivial) h
    ·obtain ⟨V,Ij,NC⟩:=PY hR (bq.to h0 hu) h1
     exact rest (b:= .c a) Ij (fun m1 γ1 ha=>bq.of (NC m1 γ1 ha)) h
  | a x =>
   simp only [Lk.o5] at h
   cases h1:m.PO k x with
   | mk a ra =>
    simp only [h1] at h
    obtain ⟨us,TI,xX⟩:=h0
    obtain ⟨V,Ij,NC⟩:=I1 hR xX h1
    exact rest (b:= .a a) Ij (fun m1 γ1 ha=>⟨us,TI,NC m1 γ1 ha⟩) h
  | t x=>exact other h
  | g p q x=>exact other h
theorem K2 (hR:Rel X m γ w) {H:Nat->List Value->Prop}:∀ {x y:List (Nat×List Cv)} {k:Nat} {rs:List (Nat×Row)},(∀ p∈x,∃ u,H p.1 u/\cj m γ p.2 u)->m.EL k x=(y,rs) ->
  ∃ V,DE X γ.O w rs V/\keys y=keys x/\∀ m1 γ1,Ag m γ rs V m1 γ1->∀ p∈y,∃ u,H p.1 u/\cj m1 γ1 p.2 u
 | [],y,k,rs,hx,h=>by cases h; exact ⟨[],.nil,rfl,fun _ _ _ p hp=>by cases hp⟩
 | (t,cs)::l,y,k,rs,hx,h=>by
  simp only [Lk.EL] at h
  cases h1:m.PO k cs with
  | mk a ra =>
   cases h2:m.EL (k+64) l with
   | mk n rc =>
    simp only [h1,h2] at h; cases h
    obtain ⟨u,hu,hr⟩:=hx (t,cs) zO
    obtain ⟨V,Ij,NC⟩:=I1 hR hr h1
    obtain ⟨V',Ww,hk,YQ⟩:=K2 hR (fun p hp=>hx p (zJ _ hp)) h2
    refine ⟨V++V',Ij.append Ww,by simp [keys,hk],fun m1 γ1 ha p hp=> ?_⟩
    rcases zI.1 hp with rfl | hp
    ·exact ⟨u,hu,NC m1 γ1 ha.left⟩
    ·exact YQ m1 γ1 ha.right p hp
theorem G7 (k:Nat) (x:Cv):∀ j∈keys (m.Nb k x).2,j=k:=by
 intro j hj
 revert hj
 simp only [Lk.Nb]
 repeat' split
 all_goals simp [keys]
theorem BO:∀ (x:List Cv) (k:Nat),∀ j∈keys (m.PO k x).2,k<=j
 | [],k,j,h=>by simp [Lk.PO,keys] at h
 | x::l,k,j,h=>by
  have h1:=G7 (m:=m) k x
  have h2:=BO l (k+1)
  simp only [Lk.PO,bC,zH] at h
  rcases h with h | h
  ·have:=h1 j h; omega
  ·have:=h2 j h; omega
theorem DH:∀ (x:List (Nat×AV)) (k:Nat),∀ j∈keys (m.o5 k x).2,k<=j
 | [],k,j,h=>by simp [Lk.o5,keys] at h
 | (t,av)::l,k,j,h=>by
  have h2:=DH l (k+64)
  cases av with
  | c x =>
   simp only [Lk.o5,bC,zH] at h
   rcases h with h | h
   ·have:=G7 k x j h; omega
   ·have:=h2 j h; omega
  | a x =>
   simp only [Lk.o5,bC,zH] at h
   rcases h with h | h
   ·exact BO x k j h
   ·have:=h2 j h; omega
  | t x=>simp only [Lk.o5] at h; have:=h2 j h; omega
  | g p q x=>simp only [Lk.o5] at h; have:=h2 j h; omega
theorem EA:∀ (x:List (Nat×List Cv)) (k:Nat),∀ j∈keys (m.EL k x).2,k<=j
 | [],k,j,h=>by simp [Lk.EL,keys] at h
 | (t,cs)::l,k,j,h=>by
  have h2:=EA l (k+64)
  simp only [Lk.EL,bC,zH] at h
  rcases h with h | h
  ·exact BO cs k j h
  ·have:=h2 j h; omega
end Go.Soft
namespace Go.Soft
open Go
variable {X:Ctx} {m M:Lk} {γ γ':Gh} {w w':World} {ρ:Operand->Value} {S T:St} {δ δ':Dl}
theorem Ei {s:St} {t:Nat} {av:AV}:∀ {l:List Nat},(t,av)∈D6 s l->av=vj (s.get t)
 | [],h=>by cases h
 | x::l,h=>by
  rcases zI.1 h with h | h
  ·cases h; rfl
  ·exact Ei h
theorem vG {vs:List (Nat×List Cv)} {k:Nat} {cs:List Cv}:∀ {l:List Nat},(k,cs)∈vM vs l->lk vs k=some cs
 | [],h=>by cases h
 | x::l,h=>by
  simp only [vM] at h
  cases hx:lk vs x with
  | none=>rw [hx] at h; exact vG h
  | some c =>
   rw [hx] at h
   rcases zI.1 h with h | h
   ·cases h; exact hx
   ·exact vG h
theorem A2 {v:Nat}:∀ {l:List Nat} {i j:Nat},nz v i l=some j->v∈l
 | [],i,j,h=>by cases h
 | x::l,i,j,h=>by
  simp only [nz] at h
  cases hx:Nat.beq x v with
  | true=>rw [aM hx]; exact zO
  | false=>rw [hx] at h; exact zJ _ (A2 h)
theorem uI {α:Type} (a b:List (Nat×α)) (k:Nat):lk (a++b) k=match lk a k with | some v=>some v | none=>lk b k:=by
 induction a with
 | nil=>rfl
 | cons p a ih =>
  obtain ⟨j,v⟩:=p
  simp only [List.cons_append,lk,ih]
  cases Nat.beq j k<;>rfl
theorem lr:∀ {l:List Cv} {acc:List Nat},acc.Nodup->(oM l acc).Nodup
 | [],acc,h=>h
 | x::l,acc,h=>by
  simp only [oM]
  cases x.row with
  | none=>exact lr h
  | some r =>
   simp only
   cases hi:nz r 0 acc with
   | some _=>exact lr h
   | none=>exact lr (List.nodup_append.2 ⟨h,by simp,fun a ha b hb=>by simp at hb; subst hb; intro e; subst e; exact tY hi ha⟩)
theorem DZ {m:List Nat}:∀ {l:List Nat},Cp l m=true->∀ x∈l,x∈m
 | [],_,x,hx=>by cases hx
 | y::l,h,x,hx=>by
  simp only [Cp] at h
  cases hi:nz y 0 m with
  | none=>rw [hi] at h; cases h
  | some j =>
   rw [hi] at h
   rcases zI.1 hx with rfl | hx
   ·exact A2 hi
   ·exact DZ h x hx
theorem uC {rs:List (Nat×Row)}:∀ {l:List Nat} {k r v:Nat},(r,v)∈qj rs k l->r∈l/\∃ row,lk rs r=some row/\((u9 r row=true/\v=r)\/(u9 r row=false/\∃ i,k<=i/\v=500000+i))
 | [],k,r,v,h=>by cases h
 | x::l,k,r,v,h=>by
  simp only [qj] at h
  cases hx:lk rs x with
  | none =>
   rw [hx] at h
   obtain ⟨h1,row,h2,h3⟩:=uC h
   refine ⟨zJ _ h1,row,h2,h3.imp id fun ⟨h4,i,h5,h6⟩=>⟨h4,i,by omega,h6⟩⟩
  | some row =>
   rw [hx] at h
   rcases zI.1 h with h | h
   ·simp only [zG] at h
    obtain ⟨rfl,hv⟩:=h
    refine ⟨zO,row,hx,?_⟩
    cases hk:u9 r row with
    | true=>rw [hk] at hv; exact .inl ⟨rfl,hv⟩
    | false=>rw [hk] at hv; exact .inr ⟨rfl,k,Nat.le_refl _,hv⟩
   ·obtain ⟨h1,row,h2,h3⟩:=uC h
    refine ⟨zJ _ h1,row,h2,h3.imp id fun ⟨h4,i,h5,h6⟩=>⟨h4,i,by omega,h6⟩⟩
theorem tu {r:Nat} {row:Row} (h:u9 r row=true):100000<=r/\r<=399999/\(row.ow=1->300000<=r):=by
 simp only [u9] at h
 cases h1:Nat.ble 100000 r with
 | false=>rw [h1] at h; simp at h
 | true =>
  have Iw:=zQ h1
  cases h2:Nat.ble r 299999 with
  | true =>
   have:=zQ h2
   refine ⟨Iw,by omega,fun ho=> ?_⟩
   rw [h1,h2,ho] at h; simp at h
  | false =>
   have J8:¬ r<=299999:=fun hle=>by rw [Nat.ble_eq_true_of_le hle] at h2; cases h2
   cases h3:Nat.ble r 399999 with
   | true=>have:=zQ h3; exact ⟨Iw,this,fun _=>by omega⟩
   | false=>rw [h1,h2,h3] at h; simp at h
theorem AA {rs:List (Nat×Row)}:∀ {l:List Nat} {k:Nat},l.Nodup->∀ {r r' v:Nat},(r,v)∈qj rs k l->(r',v)∈qj rs k l->r=r'
 | [],k,_,r,r',v,h,_=>by cases h
 | x::l,k,hn,r,r',v,h,h'=>by
  have Qy:=(List.nodup_cons.1 hn).2
  simp only [qj] at h h'
  cases hx:lk rs x with
  | none=>rw [hx] at h h'; exact AA Qy h h'
  | some row =>
   rw [hx] at h h'
   have cross:∀ {y:Nat},(match u9 x row with | true=>x | false=>500000+k)=v->(y,v)∈qj rs (k+1) l->x=y:=by
    intro y hv hy
    obtain ⟨h1,row',h2,h3⟩:=uC hy
    rcases h3 with ⟨h4,h5⟩ | ⟨h4,i,h5,h6⟩
    ·have hr:=tu h4
     cases hk:u9 x row with
     | true=>rw [hk] at hv; simp only at hv; omega
     | false=>rw [hk] at hv; simp only at hv; omega
    ·cases hk:u9 x row with
     | true=>have hr:=tu hk; rw [hk] at hv; simp only at hv; omega
     | false=>rw [hk] at hv; simp only at hv; omega
   rcases zI.1 h with h | h<;>rcases zI.1 h' with h' | h'
   ·simp only [zG] at h h'; rw [h.1,h'.1]
   ·simp only [zG] at h; rw [h.1]; exact cross h.2.symm h'
   ·simp only [zG] at h'; rw [h'.1]; exact (cross h'.2.symm h).symm
   ·exact AA Qy h h'
theorem yO {rs:List (Nat×Row)}:∀ {l:List Nat} {k:Nat},l.Nodup->(keys (qj rs k l)).Nodup
 | [],k,_=>by simp [qj,keys]
 | x::l,k,hn=>by
  have Qy:=List.nodup_cons.1 hn
  simp only [qj]
  cases hx:lk rs x with
  | none=>exact yO Qy.2
  | some row =>
   simp only [keys,List.nodup_cons]
   refine ⟨fun hm=> ?_,yO Qy.2⟩
   obtain ⟨v,hv⟩:=N8 hm
   exact Qy.1 (uC hv).1
theorem pz {rs:List (Nat×Row)} {k:Nat} {row:Row}:∀ {l:List (Nat×Nat)},(k,row)∈pW rs l↔∃ r,(r,k)∈l/\lk rs r=some row
 | []=>by simp [pW]
 | (x,j)::l=>by
  simp only [pW]
  cases hx:lk rs x with
  | none =>
   simp only [pz,zI,zG]
   constructor
   ·rintro ⟨r,h1,h2⟩; exact ⟨r,.inr h1,h2⟩
   ·rintro ⟨r,h1 | h1,h2⟩
    ·rw [h1.1,hx] at h2; cases h2
    ·exact ⟨r,h1,h2⟩
  | some u =>
   simp only [zI,pz,zG]
   constructor
   ·rintro (⟨h1,h2⟩ | ⟨r,h1,h2⟩)
    ·exact ⟨x,.inl ⟨rfl,h1⟩,by rw [hx,h2]⟩
    ·exact ⟨r,.inr h1,h2⟩
   ·rintro ⟨r,⟨h1,Iw⟩ | h1,h2⟩
    ·rw [h1,hx] at h2; cases h2; exact .inl ⟨Iw,rfl⟩
    ·exact .inr ⟨r,h1,h2⟩
theorem Pl (f:Cv->Cv) (l:List (Nat×AV)) (t:Nat):lk (Cd f l) t=(lk l t).map (kC f):=by
 induction l with
 | nil=>rfl
 | cons p l ih =>
  obtain ⟨k,v⟩:=p
  simp only [Cd,lk,ih]
  cases Nat.beq k t<;>rfl
theorem Gu (f:Cv->Cv) (l:List (Nat×List Cv)) (t:Nat):lk (B7 f l) t=(lk l t).map (List.map f):=by
 induction l with
 | nil=>rfl
 | cons p l ih =>
  obtain ⟨k,v⟩:=p
  simp only [B7,lk,ih,xK]
  cases Nat.beq k t<;>rfl
theorem AL:∀ {x y:List (Nat×AV)} {k:Nat} {rs:List (Nat×Row)},Rg x->m.o5 k x=(y,rs)->Rg y
 | [],y,k,rs,hp,h=>by cases h; exact hp
 | (t,av)::l,y,k,rs,hp,h=>by
  have hl:Rg l:=fun p hm=>hp p (zJ _ hm)
  have h0:av.plain:=hp (t,av) zO
  cases h2:m.o5 (k+64) l with
  | mk n rc =>
   have ih:=AL hl h2
   cases av with
   | c x =>
    simp only [Lk.o5,h2] at h; cases h
    intro p yX
    rcases zI.1 yX with rfl | yX
    ·trivial
    ·exact ih p yX
   | a x =>
    simp only [Lk.o5,h2] at h; cases h
    intro p yX
    rcases zI.1 yX with rfl | yX
    ·trivial
    ·exact ih p yX
   | t x =>
    simp only [Lk.o5,h2] at h; cases h
    intro p yX
    rcases zI.1 yX with rfl | yX
    ·trivial
    ·exact ih p yX
   | g p q x=>exact h0.elim
theorem Te {f:Cv->Cv} {l:List (Nat×AV)} (h:Rg l):Rg (Cd f l):=by
 induction l with
 | nil=>exact h
 | cons p l ih =>
  obtain ⟨k,v⟩:=p
  intro q hq
  rcases zI.1 hq with rfl | hq
  ·have:=h (k,v) zO
   cases v with
   | g=>exact this.elim
   | _=>trivial
  ·exact ih (fun p hp=>h p (zJ _ hp)) q hq
theorem H0 (s:St):∀ l:List Nat,Rg (D6 s l)
 | []=>fun p hp=>by cases hp
 | t::l=>fun p hp=>by
  rcases zI.1 hp with rfl | hp
  ·show (vj (s.get t)).plain
   cases s.get t<;>trivial
  ·exact H0 s l p hp
theorem DK (h:Rg S.tm):pQ S:=fun t p q v hl=>by have:=h _ (cU hl); exact this
theorem E9 {a:Act} (hT:FO X S γ a) (t:Nat):bq S.lk γ (S.get t) (a.tmps.getD t undef):=by
 simp only [St.get]
 cases hl:lk S.tm t with
 | none=>trivial
 | some av=>exact hT.2 t av hl
theorem HA {e0:Lk} {γ0:Gh} {w0:World} {a:Act} (ts vk:List Nat) (hI:B9 X γ0 w0 S γ a w) (h3:I3v e0 γ0 S γ) :
  Rg (S.prune ts vk).tm/\∃ γ',Inv X e0 γ0 w0 (S.prune ts vk) γ' a w:=by
 classical
 simp only [St.prune]
 cases ht:S.lk.o5 600000 (D6 S ts) with
 | mk tm r1 =>
  cases hv:S.lk.EL 700000 (vM S.vs vk) with
  | mk vs r2 =>
   simp only
   cases hc:fC (keys (r1++r2))&&(jG (keys (r1++r2)) (keys S.rs)&&E7 S.rs) with
   | false=>exact ⟨fun p hp=>(by cases hp),γ,(Jm hI).inv fun k row _ _ h=>(by cases h)⟩
   | true =>
    simp only [zB] at hc
    obtain ⟨Ii,Ze,_⟩:=hc
    have Ii:=gO.1 Ii
    have Ze:=eT.1 Ze
    simp only
    obtain ⟨V1,hV1,aee⟩:=Lq (X:=X) hI.rel (VT:=fun t=>a.tmps.getD t undef) (fun p hp=>by
     obtain ⟨t,av⟩:=p
     rw [Ei hp]; exact yQ (E9 hI.tmp t)) ht
    obtain ⟨V2,hV2,Iu,ad6⟩:=K2 (X:=X) hI.rel (H:=fun k u=>γ.O (γ.vb k)=some (.v k)/\∃ cur e,w.heap[γ.vb k]? =some (.cells cur e (0,0))/\cur.toList=u) (fun p hp=>by
     obtain ⟨k,cs⟩:=p
     obtain ⟨h1,cur,e,h2,h3⟩:=hI.rel.vs k cs (vG hp)
     exact ⟨cur.toList,⟨h1,cur,e,h2,rfl⟩,h3⟩) hv
    have hV:=hV1.append hV2
    have Um:∀ j∈keys (r1++r2),600000<=j:=by
     intro j hj
     rw [bC,zH] at hj
     rcases hj with hj | hj
     ·have:=DH (m:=S.lk) (D6 S ts) 600000 j (by rw [ht]; exact hj); omega
     ·have:=EA (m:=S.lk) (vM S.vs vk) 700000 j (by rw [hv]; exact hj); omega
    let rs:=r1++(r2++S.rs)
    let S1:St:=⟨tm,vs++S.vs,rs⟩
    let γ1:Gh:=⟨γ.O,fun k=>match lk (V1++V2) k with | some vc=>vc.1 | none=>γ.rv k,fun k=>match lk (V1++V2) k with | some vc=>vc.2 | none=>γ.cv k,γ.vb⟩
    have No:∀ k,lk rs k=match lk (r1++r2) k with | some row=>some row | none=>lk S.rs k:=by
     intro k
     show lk (r1++(r2++S.rs)) k=_
     rw [← List.append_assoc]
     rw [uI]
     cases lk (r1++r2) k<;>rfl
    have WH:∀ k,k∉keys (r1++r2)->lk (V1++V2) k=none:=fun k hk=>cL.2 (by rw [hV.keys]; exact hk)
    have hold:∀ r row,S.lk.r r=some row->S1.lk.r r=some row/\γ1.rv r=γ.rv r/\γ1.cv r=γ.cv r:=by
     intro r row hr
     have CQ:r∉keys (r1++r2):=fun hm=>Ze r hm (mem_keys (cU hr))
     refine ⟨?_,?_,?_⟩
     ·show lk rs r=_
      rw [No,cL.2 CQ]; exact hr
     ·show (match lk (V1++V2) r with | some vc=>vc.1 | none=>γ.rv r)=_
      rw [WH r CQ]
     ·show (match lk (V1++V2) r with | some vc=>vc.2 | none=>γ.cv r)=_
      rw [WH r CQ]
    have NT:Ag S.lk γ (r1++r2) (V1++V2) S1.lk γ1:=by
     refine ⟨hold,fun k cs hk=> ?_,rfl,fun k row hm=> ?_,fun k vc hm=> ?_⟩
     ·show ∃ cs',lk (vs++S.vs) k=some cs'
      rw [uI]
      cases lk vs k with
      | some cs'=>exact ⟨cs',rfl⟩
      | none=>exact ⟨cs,hk⟩
     ·show lk rs k=_
      rw [No,gA Ii hm]
     ·have:lk (V1++V2) k=some vc:=gA (by rw [hV.keys]; exact Ii) hm
      exact ⟨by show (match lk (V1++V2) k with | some vc=>vc.1 | none=>γ.rv k)=_; rw [this],by show (match lk (V1++V2) k with | some vc=>vc.2 | none=>γ.cv k)=_; rw [this]⟩
    have hW1:B9 X γ0 w0 S1 γ1 a w:=by
     refine ⟨⟨fun k cs hk=> ?_,fun k row hk=> ?_⟩,hI.top,⟨hI.tmp.1,fun t av hl=> ?_⟩,hI.df,hI.fr,fun k h1 h2=> ?_,hI.i2⟩
     ·have hk:lk (vs++S.vs) k=some cs:=hk
      rw [uI] at hk
      cases hl:lk vs k with
      | some cs' =>
       rw [hl] at hk; cases hk
       obtain ⟨u,⟨h1,cur,e,h2,rfl⟩,h4⟩:=ad6 S1.lk γ1 NT.right (k,cs) (cU hl)
       exact ⟨h1,cur,e,h2,h4⟩
      | none =>
       rw [hl] at hk
       obtain ⟨h1,cur,e,h2,h4⟩:=hI.rel.vs k cs hk
       have:=cj.map (f:=id) (fun x v hx=>NT.sA hx) h4
       rw [List.map_id] at this
       exact ⟨h1,cur,e,h2,this⟩
     ·have hk:lk rs k=some row:=hk
      rw [No] at hk
      cases hl:lk (r1++r2) k with
      | some row' =>
       rw [hl] at hk; cases hk
       obtain ⟨vc,h1,h2⟩:=hV.get k row hl
       show cX X γ.O w k row (match lk (V1++V2) k with | some vc=>vc.1 | none=>γ.rv k) (match lk (V1++V2) k with | some vc=>vc.2 | none=>γ.cv k)
       rw [h1]; exact h2
      | none =>
       rw [hl] at hk
       obtain ⟨_,h2,h3⟩:=hold k row hk
       rw [h2,h3]; exact hI.rel.rs k row hk
     ·exact aee S1.lk γ1 NT.left (t,av) (cU hl)
     ·have CQ:k∉keys (r1++r2):=fun hm=>by have:=Um k hm; omega
      show (match lk (V1++V2) k with | some vc=>vc.1 | none=>γ.rv k)=_
      rw [WH k CQ]; exact hI.i4 k h1 h2
    have TA:(oM (vcs vs) (oM (Sc tm) [])).Nodup:=lr (lr List.nodup_nil)
    generalize oM (vcs vs) (oM (Sc tm) [])=rl at TA
    let μl:=qj rs 0 rl
    have hμn:(keys μl).Nodup:=yO TA
    let f:=Vp μl (keys vs)
    let T:St:=⟨Cd f tm,B7 f vs,pW rs μl⟩
    let κ:Nat->Nat:=fun r=>match lk rs r with | some row=>row.ow | none=>0
    have hκ:∀ r row,lk rs r=some row->({ row with ow:=κ r }:Row)=row:=by
     intro r row hr
     have:κ r=row.ow:=by show (match lk rs r with | some row=>row.ow | none=>0)=_; rw [hr]
     rw [this]
    have hTr:∀ k row,T.lk.r k=some row->∃ r,(r,k)∈μl/\lk rs r=some row:=fun k row hk=>pz.1 (cU hk)
    have hn:XR S1 T (fun r=>lk μl r) κ f:=by
     refine ⟨fun r r' k h1 h2=>AA TA (cU h1) (cU h2),fun k row hk=> ?_,fun r k row h1 h2=> ?_,fun r k row h1 h2=> ?_,fun k cs' hk=> ?_,fun t av' hl=> ?_,rfl,fun x=> ?_,fun r k h h1 h2=> ?_⟩
     ·obtain ⟨r,h1,h2⟩:=hTr k row hk
      exact ⟨r,row,gA hμn h1,h2,(hκ r row h2).symm⟩
     ·have hm:(k,row)∈pW rs μl:=pz.2 ⟨r,cU h1,h2⟩
      obtain ⟨row',hl⟩:=pb hm
      obtain ⟨r',h3,h4⟩:=hTr k row' hl
      have:r'=r:=AA TA h3 (cU h1)
      subst this
      have J8:lk rs r'=some row:=h2
      rw [J8] at h4; cases h4
      rw [hκ r' row J8]; exact hl
     ·have:κ r=row.ow:=by show (match lk rs r with | some row=>row.ow | none=>0)=_; rw [show lk rs r=some row from h2]
      rw [this]; exact KX row.ow
     ·have hk:lk (B7 f vs) k=some cs':=hk
      rw [Gu] at hk
      cases hl:lk vs k with
      | none=>rw [hl] at hk; cases hk
      | some cs =>
       rw [hl] at hk; cases hk
       refine ⟨cs,?_,rfl⟩
       show lk (vs++S.vs) k=_
       rw [uI,hl]
     ·have hl:lk (Cd f tm) t=some av':=hl
      rw [Pl] at hl
      cases xX:lk tm t with
      | none=>rw [xX] at hl; cases hl
      | some av=>rw [xX] at hl; cases hl; exact ⟨av,by first | rfl | exact xX,rfl⟩
     ·have DB:∀ k∈keys vs,∃ cs',T.lk.v k=some cs':=by
       intro k hk
       obtain ⟨cs,je⟩:=qg hk
       exact ⟨cs.map f,by show lk (B7 f vs) k=_; rw [Gu,je]; rfl⟩
      cases x with
      | sw r =>
       show (match lk μl r with | some k=>Cv.sw k | none=> .un)=_\/_
       cases hl:lk μl r with
       | none=>exact .inl rfl
       | some k=>exact .inr (.inr ⟨r,k,hl,.inl ⟨rfl,by show (match lk μl r with | some k=>Cv.sw k | none=> .un)=_; rw [hl]⟩⟩)
      | sl r o n =>
       show (match lk μl r with | some k=>Cv.sl k o n | none=> .un)=_\/_
       cases hl:lk μl r with
       | none=>exact .inl rfl
       | some k=>exact .inr (.inr ⟨r,k,hl,.inr (.inl ⟨o,n,rfl,by show (match lk μl r with | some k=>Cv.sl k o n | none=> .un)=_; rw [hl]⟩)⟩)
      | nw r o n =>
       show (match lk μl r with | some k=>Cv.nw k o n | none=> .un)=_\/_
       cases hl:lk μl r with
       | none=>exact .inl rfl
       | some k=>exact .inr (.inr ⟨r,k,hl,.inr (.inr (.inl ⟨o,n,rfl,by show (match lk μl r with | some k=>Cv.nw k o n | none=> .un)=_; rw [hl]⟩))⟩)
      | ns r e c o n =>
       show (match lk μl r with | some k=>Cv.ns k e c o n | none=> .un)=_\/_
       cases hl:lk μl r with
       | none=>exact .inl rfl
       | some k=>exact .inr (.inr ⟨r,k,hl,.inr (.inr (.inr (.inl ⟨e,c,o,n,rfl,by show (match lk μl r with | some k=>Cv.ns k e c o n | none=> .un)=_; rw [hl]⟩)))⟩)
      | pe r o n =>
       show (match lk μl r with | some k=>Cv.pe k o n | none=> .un)=_\/_
       cases hl:lk μl r with
       | none=>exact .inl rfl
       | some k=>exact .inr (.inr ⟨r,k,hl,.inr (.inr (.inr (.inr (.inl ⟨o,n,rfl,by show (match lk μl r with | some k=>Cv.pe k o n | none=> .un)=_; rw [hl]⟩))))⟩)
      | pn r e c o n =>
       show (match lk μl r with | some k=>Cv.pn k e c o n | none=> .un)=_\/_
       cases hl:lk μl r with
       | none=>exact .inl rfl
       | some k=>exact .inr (.inr ⟨r,k,hl,.inr (.inr (.inr (.inr (.inr ⟨e,c,o,n,rfl,by show (match lk μl r with | some k=>Cv.pn k e c o n | none=> .un)=_; rw [hl]⟩))))⟩)
      | pv v c =>
       cases hi:nz v 0 (keys vs) with
       | none=>exact .inl (by show (match nz v 0 (keys vs) with | some _=>Cv.pv v c | none=> .un)=_; rw [hi])
       | some j=>exact .inr (.inl ⟨by show (match nz v 0 (keys vs) with | some _=>Cv.pv v c | none=> .un)=_; rw [hi],rfl,fun k hk _ _=>by simp [Cv.vk] at hk; subst hk; exact DB k (A2 hi)⟩)
      | fn g caps =>
       cases hi:Cp caps (keys vs) with
       | false=>exact .inl (by show (match Cp caps (keys vs) with | true=>Cv.fn g caps | false=> .un)=_; rw [hi])
       | true=>exact .inr (.inl ⟨by show (match Cp caps (keys vs) with | true=>Cv.fn g caps | false=> .un)=_; rw [hi],rfl,fun k hk _ _=>DB k (DZ hi k hk)⟩)
      | _=>exact .inr (.inl ⟨rfl,rfl,fun k hk=>by simp [Cv.vk] at hk⟩)
     ·obtain ⟨_,row,_,h3⟩:=uC (cU h)
      rcases h3 with ⟨_,h4⟩ | ⟨_,i,_,h4⟩<;>omega
    refine ⟨Te (AL (H0 S ts) ht),?_⟩
    obtain ⟨γ',h1,h2⟩:=hn.ok hW1
    refine ⟨γ',h1.inv fun k row wq so Dz Nu=> ?_⟩
    obtain ⟨r,Xj,fU⟩:=hTr k row Dz
    obtain ⟨_,row',hr3,hr4⟩:=uC Xj
    rw [fU] at hr3; cases hr3
    rcases hr4 with ⟨h5,h6⟩ | ⟨_,i,_,h6⟩
    ·subst h6
     have h7:=(tu h5).2.2 Nu
     have CQ:k∉keys (r1++r2):=fun hm=>by have:=Um k hm; omega
     have h8:S.lk.r k=some row:=by rw [No,cL.2 CQ] at fU; exact fU
     obtain ⟨i1,i2,i3⟩:=h3 k row h7 so h8 Nu
     obtain ⟨j1,j2⟩:=h2 k k row (gA hμn Xj) fU
     obtain ⟨_,j3,j4⟩:=hold k row h8
     exact ⟨i1,by rw [j1,j3,i2],by rw [j2,j4,i3]⟩
    ·omega
def VJ:Ex->Exit
 | .normal=> .normal | .exit i=> .exit i | .ret=> .ret
def loops:Code->List Code
 | .loop c=>c::loops c
 | .seq a b=>loops a++loops b
 | .cond _ a b=>loops a++loops b
 | .block _ a=>loops a
 | _=>[]
theorem gC (n:Nat):∀ c:Code,getLoop n c=(loops c).find? fun d=>Nat.beq (dG d) n
 | .loop c=>by
  simp only [getLoop,loops,List.find?_cons,gC n c]
  cases Nat.beq (dG c) n<;>rfl
 | .seq a b=>by
  simp only [getLoop,loops,List.find?_append,gC n a,gC n b]
  cases (loops a).find? fun d=>Nat.beq (dG d) n<;>rfl
 | .cond _ a b=>by
  simp only [getLoop,loops,List.find?_append,gC n a,gC n b]
  cases (loops a).find? fun d=>Nat.beq (dG d) n<;>rfl
 | .block _ a=>by simp only [getLoop,loops,gC n a]
 | .skip=>rfl
 | .region .. =>rfl
 | .exit _=>rfl
 | .ret=>rfl
 | .rangeFunc .. =>rfl
 | .scope _=>rfl
 | .label _=>rfl
 | .goto _=>rfl
 | .refuse _=>rfl
theorem ju:∀ {b c:Code},c∈loops b->∀ d∈loops c,d∈loops b
 | .loop a,c,h,d,hd=>by
  simp only [loops,zI] at h ⊢
  rcases h with rfl | h
  ·exact .inr hd
  ·exact .inr (ju h d hd)
 | .seq a b,c,h,d,hd=>by
  simp only [loops,zH] at h ⊢
  exact h.imp (fun h=>ju h d hd) (fun h=>ju h d hd)
 | .cond _ a b,c,h,d,hd=>by
  simp only [loops,zH] at h ⊢
  exact h.imp (fun h=>ju h d hd) (fun h=>ju h d hd)
 | .block _ a,c,h,d,hd=>by simp only [loops] at h ⊢; exact ju h d hd
 | .skip,c,h,_,_=>by simp [loops] at h
 | .region ..,c,h,_,_=>by simp [loops] at h
 | .exit _,c,h,_,_=>by simp [loops] at h
 | .ret,c,h,_,_=>by simp [loops] at h
 | .rangeFunc ..,c,h,_,_=>by simp [loops] at h
 | .scope _,c,h,_,_=>by simp [loops] at h
 | .label _,c,h,_,_=>by simp [loops] at h
 | .goto _,c,h,_,_=>by simp [loops] at h
 | .refuse _,c,h,_,_=>by simp [loops] at h
def um (c:Code):List Nat:=sm dG (loops c)
theorem Gx {n:Nat} {b c:Code} (h:getLoop n b=some c):c∈loops b/\dG c=n:=by
 rw [gC] at h
 exact ⟨List.mem_of_find?_eq_some h,aM (List.find?_some (p:=fun d=>Nat.beq (dG d) n) h)⟩
theorem Bw {b c:Code} (hn:fC (um b)=true) (h:c∈loops b):getLoop (dG c) b=some c:=by
 have Is:=gO.1 hn
 simp only [um,xK] at Is
 rw [gC]
 clear hn
 revert Is h
 generalize loops b=l
 intro h hn
 induction l with
 | nil=>cases h
 | cons x l ih =>
  simp only [List.map_cons,List.nodup_cons] at hn
  rw [List.find?_cons]
  rcases zI.1 h with rfl | h
  ·rw [Nat.beq_refl]
  ·have cT:Nat.beq (dG x) (dG c)=false:=by
    cases hb:Nat.beq (dG x) (dG c) with
    | false=>rfl
    | true=>exact absurd (List.mem_map.2 ⟨c,h,(aM hb).symm⟩) hn.1
   rw [cT]; exact ih h hn.2
section
variable {R:Type} {E:Env R} {L:Live} {body:Code} {lps:Nat->Loop R}
structure GL (X:Ctx) (E:Env R) (L:Live) (body:Code) (lps:Nat->Loop R):Prop where
 z:∀ id i l,lps 0 id i l=fun _=>none
 s:∀ n id i l,lps (n+1) id i l=(fun _=>none)\/∃ c,getLoop id body=some c/\lps (n+1) id i l=round X E L (lps n) c i l
 nd:fC (um body)=true
theorem xG (hE:∀ f cn cP,gD (E.fn f cn cP)) (hl:GL X E L body lps):∀ n id i l,gD (fun k:Ex×St->Option R=>lps n id i l fun e s=>k (e,s))
 | 0,id,i,l=>by rw [hl.z]; exact gD.none
 | n+1,id,i,l=>by
  rcases hl.s n id i l with h | ⟨c,_,h⟩
  ·rw [h]; exact gD.none
  ·rw [h]; exact LS hE (xG hE hl n) c i l
variable {e0:Lk} {γ0:Gh} {w0:World}
theorem D7 {k:Sk}:∀ {l:List Sk} {n i:Nat},BR k n l=some i->∃ sk,n<=i/\l[i-n]? =some sk/\HY k sk=true
 | [],n,i,h=>by cases h
 | s::l,n,i,h=>by
  simp only [BR] at h
  cases hs:HY k s with
  | true=>rw [hs] at h; cases h; exact ⟨s,Nat.le_refl _,by simp,hs⟩
  | false =>
   rw [hs] at h
   obtain ⟨sk,h1,h2,h3⟩:=D7 h
   refine ⟨sk,by omega,?_,h3⟩
   rw [show i-n=(i-(n+1))+1 by omega]; simpa using h2
def LpR (X:Ctx) (E:Env R) (L:Live) (body:Code) (lps:Nat->Loop R) (e0:Lk) (γ0:Gh) (w0:World) (n:Nat):Prop :=
 ∀ (c:Code) (A:W0) (i:Nat) (l:List nk) (sk:Sk) (s:St) (e:Ex) (s':St) (γ:Gh) (a:Act) (w:World) (Q:Exit->Act->World->Prop),getLoop (dG c) body=some c->lk L (dG c)=some A ->
  nth A.sk i=some sk->B2 sk l=some s->pQ s->Inv X e0 γ0 w0 s γ a w->(∀ K:Ex×St->Option R,(lps n (dG c) i l fun e s=>K (e,s))=K (e,s')) ->
  (pQ s'->∀ γ' a' w',Inv X e0 γ0 w0 s' γ' a' w'->Q (VJ e) a' w')->Code.rounds X.P c Q n a w
theorem KD (r0:R) {n:Nat} (hl:LpR X E L body lps e0 γ0 w0 n) {c:Code} (hc:getLoop (dG c) body=some c) {s:St} {e:Ex} {s':St} {γ:Gh} {a:Act} {w:World} {Q:Exit->Act->World->Prop}
  (hI:Inv X e0 γ0 w0 s γ a w) (hK:∀ K:Ex×St->Option R,(exec X E L (lps n) (.loop c) s fun e s=>K (e,s))=K (e,s'))
  (hQ:pQ s'->∀ γ' a' w',Inv X e0 γ0 w0 s' γ' a' w'->Q (VJ e) a' w'):Code.rounds X.P c Q n a w:=by
 simp only [exec] at hK
 cases hA:lk L (dG c) with
 | none=>simp only [hA] at hK; exact (bQ r0 hK).elim
 | some A =>
  simp only [hA] at hK
  obtain ⟨γ1,hW,h3⟩:=LW A.fz hI
  obtain ⟨hng,γ2,Uu⟩:=HA A.ts A.vk hW h3
  revert hK
  generalize hS1:(s.freeze A.fz).prune A.ts A.vk=S1 at hng Uu
  intro hK
  cases hf:flat S1 with
  | mk k l =>
   simp only [hf] at hK
   cases hfo:BR k 0 A.sk with
   | none=>simp only [hfo] at hK; exact (bQ r0 hK).elim
   | some i =>
    simp only [hfo] at hK
    obtain ⟨sk,_,h2,h4⟩:=D7 hfo
    have ZT:HY (flat S1).1 sk=true:=by rw [hf]; exact h4
    obtain ⟨γ3,hI3⟩:=My ZT Uu
    have hu:B2 sk l=some ⟨S1.tm,S1.vs,sH S1.rs sk.rs⟩:=by
     have:=L6 hng ZT; rw [hf] at this; exact this
    exact hl c A i l sk _ e s' γ3 a w Q hc hA (by rw [iC]; simpa using h2) hu (DK (S:=⟨S1.tm,S1.vs,sH S1.rs sk.rs⟩) hng) hI3 hK hQ
theorem qE (r0:R) (hX:iH X) (hE:sE X E) (Rv:GL X E L body lps) {n:Nat} (hl:LpR X E L body lps e0 γ0 w0 n) :
  ∀ (c:Code) (s:St) (e:Ex) (s':St) (γ:Gh) (a:Act) (w:World) (Q:Exit->Act->World->Prop),(∀ d∈loops c,getLoop (dG d) body=some d)->pQ s->Inv X e0 γ0 w0 s γ a w ->
   (∀ K:Ex×St->Option R,(exec X E L (lps n) c s fun e s=>K (e,s))=K (e,s')) ->
   (pQ s'->∀ γ' a' w',Inv X e0 γ0 w0 s' γ' a' w'->Q (VJ e) a' w')->c.wp X.P Q a w
 | .skip,s,e,s',γ,a,w,Q,_,hg,hI,hK,hQ=>by
  have:=jd r0 hK; cases this
  exact wp_skip (hQ hg γ a w hI)
 | .exit id,s,e,s',γ,a,w,Q,_,hg,hI,hK,hQ=>by
  have:=jd r0 hK; cases this
  exact wp_exit (hQ hg γ a w hI)
 | .ret,s,e,s',γ,a,w,Q,_,hg,hI,hK,hQ=>by
  have:=jd r0 hK; cases this
  exact wp_ret (hQ hg γ a w hI)
 | .region id ops draw,s,e,s',γ,a,w,Q,_,hg,hI,hK,hQ=>by
  simp only [exec] at hK
  obtain ⟨oc,rP⟩:=zx (X:=X) hE.Gf ops draw s
  cases oc with
  | none=>exact (bQ r0 (α:=Ex×St) (y:=(e,s')) fun K=>(rP fun s=>K (.normal,s)).symm.trans (hK K)).elim
  | some s1 =>
   have:(Ex.normal,s1)=(e,s'):=jd r0 fun K=>(rP fun s=>K (.normal,s)).symm.trans (hK K)
   cases this
   exact VQ r0 hX hE rP hg hI hQ
 | .seq x y,s,e,s',γ,a,w,Q,hd,hg,hI,hK,hQ=>by
  simp only [exec] at hK
  obtain ⟨oc,rP⟩:=js hE.Gf (fun c i l=>xG hE.Gf Rv n c i l) x s
  have hdx:∀ d∈loops x,getLoop (dG d) body=some d:=fun d h=>hd d (by simp only [loops,zH]; exact .inl h)
  have Tm:∀ d∈loops y,getLoop (dG d) body=some d:=fun d h=>hd d (by simp only [loops,zH]; exact .inr h)
  let F:(Ex×St->Option R)->Ex×St->Option R:=fun K x=>match x.1 with
   | .normal=>exec X E L (lps n) y x.2 fun e s=>K (e,s)
   | e=>K (e,x.2)
  have hF:∀ K,oc.bind (F K)=K (e,s'):=fun K=>(rP (F K)).symm.trans (hK K)
  cases oc with
  | none=>exact (bQ r0 hF).elim
  | some x1 =>
   obtain ⟨e1,s1⟩:=x1
   refine wp_seq (qE r0 hX hE Rv hl x s e1 s1 γ a w _ hdx hg hI rP fun Il γ1 a1 w1 NS=> ?_)
   cases e1 with
   | normal=>exact qE r0 hX hE Rv hl y s1 e s' γ1 a1 w1 Q Tm Il NS hF hQ
   | exit i =>
    have:=jd r0 hF; cases this
    exact hQ Il γ1 a1 w1 NS
   | ret =>
    have:=jd r0 hF; cases this
    exact hQ Il γ1 a1 w1 NS
 | .cond c x y,s,e,s',γ,a,w,Q,hd,hg,hI,hK,hQ=>by
  have hdx:∀ d∈loops x,getLoop (dG d) body=some d:=fun d h=>hd d (by simp only [loops,zH]; exact .inl h)
  have Tm:∀ d∈loops y,getLoop (dG d) body=some d:=fun d h=>hd d (by simp only [loops,zH]; exact .inr h)
  simp only [exec] at hK
  revert hK; split
  ·rename_i b hb
   intro hK
   have hv:=tC (s':=s) hI.tmp (vZ hg) (fun _ _ h=>h) (p:=[]) (fun x hx=>by cases hx) 0 c
   rw [hb] at hv
   have hv:a.eval c= .bool b:=hv
   cases b with
   | true=>exact wp_cond hv (qE r0 hX hE Rv hl x s e s' γ a w Q hdx hg hI hK hQ)
   | false=>exact wp_cond hv (qE r0 hX hE Rv hl y s e s' γ a w Q Tm hg hI hK hQ)
  ·intro hK; exact (bQ r0 hK).elim
 | .block id c,s,e,s',γ,a,w,Q,hd,hg,hI,hK,hQ=>by
  simp only [exec] at hK
  obtain ⟨oc,rP⟩:=js hE.Gf (fun c i l=>xG hE.Gf Rv n c i l) c s
  let F:(Ex×St->Option R)->Ex×St->Option R:=fun K x=>match x.1 with
   | .exit i=>match Nat.beq i id with
    | true=>K (.normal,x.2)
    | false=>K (x.1,x.2)
   | e=>K (e,x.2)
  have hF:∀ K,oc.bind (F K)=K (e,s'):=fun K=>(by
   refine (rP (F K)).symm.trans (Eq.trans ?_ (hK K))
   congr 1)
  cases oc with
  | none=>exact (bQ r0 hF).elim
  | some x1 =>
   obtain ⟨e1,s1⟩:=x1
   refine wp_block (qE r0 hX hE Rv hl c s e1 s1 γ a w _ hd hg hI rP fun Il γ1 a1 w1 NS=> ?_)
   cases e1 with
   | normal =>
    have:=jd r0 hF; cases this
    exact hQ Il γ1 a1 w1 NS
   | ret =>
    have:=jd r0 hF; cases this
    exact hQ Il γ1 a1 w1 NS
   | exit i =>
    have hF:∀ K:Ex×St->Option R,(match Nat.beq i id with | true=>K (.normal,s1) | false=>K (.exit i,s1))=K (e,s'):=hF
    show (if i=id then Q .normal a1 w1 else Q (.exit i) a1 w1)
    cases hb:Nat.beq i id with
    | true =>
     have:=aM hb; subst this
     rw [if_pos rfl]
     simp only [hb] at hF
     have:=jd r0 hF; cases this
     exact hQ Il γ1 a1 w1 NS
    | false =>
     have cT:i≠id:=fun h=>by subst h; rw [Nat.beq_refl] at hb; cases hb
     rw [if_neg cT]
     simp only [hb] at hF
     have:=jd r0 hF; cases this
     exact hQ Il γ1 a1 w1 NS
 | .loop c,s,e,s',γ,a,w,Q,hd,hg,hI,hK,hQ =>
  wp_loop_rounds n (KD r0 hl (hd c (by simp only [loops]; exact zO)) hI hK hQ)
 | .rangeFunc ..,s,e,s',γ,a,w,Q,_,hg,hI,hK,hQ=>(bQ r0 hK).elim
 | .scope _,s,e,s',γ,a,w,Q,_,hg,hI,hK,hQ=>(bQ r0 hK).elim
 | .label _,s,e,s',γ,a,w,Q,_,hg,hI,hK,hQ=>(bQ r0 hK).elim
 | .goto _,s,e,s',γ,a,w,Q,_,hg,hI,hK,hQ=>(bQ r0 hK).elim
 | .refuse _,s,e,s',γ,a,w,Q,_,hg,hI,hK,hQ=>(bQ r0 hK).elim
theorem HZ {s:St} {γ:Gh} {a:Act} {w:World} (A:W0) (e:Ex) (hg:pQ s) (hI:Inv X e0 γ0 w0 s γ a w):pQ (A.leave e s)/\∃ γ',Inv X e0 γ0 w0 (A.leave e s) γ' a w:=by
 simp only [W0.leave]
 cases lk A.out e.num with
 | none=>exact ⟨hg,γ,hI⟩
 | some p =>
  obtain ⟨ts,vk⟩:=p
  obtain ⟨h1,h2⟩:=HA ts vk hI.SL fun k row h1 h2=>hI.i3 k row (by omega) h2
  exact ⟨DK h1,h2⟩
theorem lpR (r0:R) (hX:iH X) (hE:sE X E) (hl:GL X E L body lps):∀ n,LpR X E L body lps e0 γ0 w0 n
 | 0=>by
  intro c A i l sk s e s' γ a w Q hc hA UR hu hg hI hK hQ
  rw [hl.z] at hK
  exact (bQ r0 hK).elim
 | n+1=>by
  intro c A i l sk s e s' γ a w Q hc hA UR hu hg hI hK hQ
  have ih:=lpR r0 hX hE hl n
  rcases hl.s n (dG c) i l with h | ⟨c',lS,h⟩
  ·rw [h] at hK; exact (bQ r0 hK).elim
  ·rw [hc] at lS; cases lS
   rw [h] at hK
   simp only [round,hA,UR,hu] at hK
   obtain ⟨oc,rP⟩:=js hE.Gf (fun c i l=>xG hE.Gf hl n c i l) c s
   let F:(Ex×St->Option R)->Ex×St->Option R:=fun K x=>match x.1 with
    | .normal=>exec X E L (lps n) (.loop c) x.2 fun e s=>K (e,s)
    | e=>K (e,A.leave e x.2)
   have hF:∀ K,oc.bind (F K)=K (e,s'):=fun K=>(rP (F K)).symm.trans (hK K)
   have Rl:=(Gx hc).1
   have hd:∀ d∈loops c,getLoop (dG d) body=some d:=fun d h=>Bw hl.nd (ju Rl d h)
   cases oc with
   | none=>exact (bQ r0 hF).elim
   | some x1 =>
    obtain ⟨e1,s1⟩:=x1
    rw [rounds_succ]
    refine qE r0 hX hE hl ih c s e1 s1 γ a w _ hd hg hI rP fun Il γ1 a1 w1 NS=> ?_
    cases e1 with
    | normal=>exact KD r0 ih hc NS hF hQ
    | exit j =>
     have:=jd r0 hF; cases this
     obtain ⟨h1,γ2,h2⟩:=HZ A (.exit j) Il NS
     exact hQ h1 γ2 a1 w1 h2
    | ret =>
     have:=jd r0 hF; cases this
     obtain ⟨h1,γ2,h2⟩:=HZ A .ret Il NS
     exact hQ h1 γ2 a1 w1 h2
end
end Go.Soft
namespace Go.Soft
open Go
variable {X:Ctx} {m M:Lk} {γ γ':Gh} {w w':World} {ρ:Operand->Value} {S T:St} {δ δ':Dl}
theorem cX.pre {O:OM} {k d:Nat} {τ:Ty} {xs:List (El τ)} {v u:Value} {cs:List Value} (hd:sf d=true) (h:cX X O w k ⟨τ,xs,d⟩ v cs) {len:Nat} (hle:len<=xs.length) (hs:BQ (sz τ) v 0 len u) :
  cX X O w k ⟨τ,sub xs 0 len,d⟩ u (cs.take (len*sz τ)):=by
 have hl:(sub xs 0 len).length=len:=kL xs (by omega)
 have own:∀ t,w.ownsRow 0 (X.id τ) (sz τ) v xs.length cs->(∀ g,v.ownBlock=some g->O g=some t)->w.ownsRow 0 (X.id τ) (sz τ) u len (cs.take (len*sz τ))/\∀ g,u.ownBlock=some g->O g=some t:=by
  intro t ho hb
  rcases hs with ⟨rfl,rfl,rfl⟩ | ⟨g,o,n,cap,o',cap',rfl,rfl,⟨h1,h2⟩,h3,h4,_⟩
  ·exact ⟨by simpa using World.ownsRow_nil w 0 _ _,by simp [Value.ownBlock]⟩
  ·obtain ⟨hlen,ho⟩:=ho
   rcases ho with ⟨hn,_⟩ | ⟨g',cap2,cur,hv,J0,hg,Iv,hmx,mH,ht⟩
   ·cases hn
   ·injection hv with e1 e2 e3
    injection e1 with e1
    injection e1 with e4 e5 _
    subst e4; subst e5; subst e3
    have NI:o'=0:=by omega
    subst NI
    have Dx:cap'=cap:=by omega
    subst Dx
    have hm:len*sz τ<=xs.length*sz τ:=zP _ hle
    refine ⟨⟨by rw [List.length_take]; omega,.inr ⟨g,cap',cur,rfl,J0,hg,h1,hmx,mH,?_⟩⟩,fun b ZC=>hb b (by simpa [Value.ownBlock] using ZC)⟩
    rw [← ht,List.take_take]; congr 1; omega
 refine ⟨?_,fun e c ct he hc=> ?_⟩
 ·show Sl X O w (dU k d) τ u (sub xs 0 len).length _
  rw [hl]
  have ht:=h.top
  rcases mA hd with rfl | rfl | rfl
  ·have ht:As (fun g=>In .fz (O g)) w (sz τ) v xs.length cs:=ht
   have h2:=ht.sub (off:=0) (len:=len) (by omega) hs
   have h3:As (fun g=>In .fz (O g)) w (sz τ) u len (cs.take (len*sz τ)):=by simpa using h2
   exact h3
  ·exact own _ ht.1 ht.2
  ·exact own _ ht.1 ht.2
 ·have he:e<(sub xs 0 len).length:=he
  rw [hl] at he
  have hc:(cells τ ((sub xs 0 len).getD e (cy τ)))[c]? =some ct:=hc
  rw [sV xs _ he,Nat.zero_add] at hc
  obtain ⟨x,hx,hr⟩:=h.rU e c ct (show e<xs.length by omega) hc
  refine ⟨x,?_,hr⟩
  have lS:c<sz τ:=by have:=(zU.1 hc).1; rwa [bf] at this
  have:e*sz τ+c<len*sz τ:=by
   have:=zP (sz τ) (show e+1<=len from he)
   rw [Nat.add_mul] at this; omega
  show (cs.take (len*sz τ))[e*sz τ+c]? =_
  rw [List.getElem?_take,if_pos this]; exact hx
theorem Vc {off w:Nat} (h:ZO off w=true):sf w=true:=by
 cases off with
 | zero=>exact h
 | succ o=>have:w=3:=aM h; subst this; rfl
theorem cX.part {O:OM} {k d:Nat} {τ:Ty} {xs:List (El τ)} {v u:Value} {cs:List Value} {off len:Nat} (hd:ZO off d=true) (h:cX X O w k ⟨τ,xs,d⟩ v cs) (hle:off+len<=xs.length) (hs:BQ (sz τ) v off len u) :
  ∃ cs',cX X O w k ⟨τ,sub xs off len,d⟩ u cs':=by
 cases off with
 | zero=>exact ⟨_,h.pre hd (by omega) hs⟩
 | succ o =>
  have Nt:d=3:=aM hd
  subst Nt
  have hl:(sub xs (o+1) len).length=len:=kL xs hle
  have ht:As (fun g=>In .fz (O g)) w (sz τ) v xs.length cs:=h.top
  have h2:=ht.sub (off:=o+1) (len:=len) hle hs
  refine ⟨((cs.drop ((o+1)*sz τ)).take (len*sz τ)),?_,fun e c ct he hc=> ?_⟩
  ·show Sl X O w (dU k 3) τ u (sub xs (o+1) len).length _
   rw [hl]
   exact h2
  ·have he:e<(sub xs (o+1) len).length:=he
   rw [hl] at he
   have hc:(cells τ ((sub xs (o+1) len).getD e (cy τ)))[c]? =some ct:=hc
   rw [sV xs _ he] at hc
   obtain ⟨x,hx,hr⟩:=h.rU (o+1+e) c ct (show o+1+e<xs.length by omega) hc
   refine ⟨x,?_,hr⟩
   have lS:c<sz τ:=by have:=(zU.1 hc).1; rwa [bf] at this
   have:e*sz τ+c<len*sz τ:=by
    have:=zP (sz τ) (show e+1<=len from he)
    rw [Nat.add_mul] at this; omega
   show ((cs.drop ((o+1)*sz τ)).take (len*sz τ))[e*sz τ+c]? =_
   rw [List.getElem?_take,if_pos this,List.getElem?_drop,← Nat.add_assoc,← Nat.add_mul]; exact hx
def X0 (G:List (Nat×Nat)):Rb:=⟨fun r=>some (r,match lk G r with | some d=>d | none=>5),none,fun k=>some (.v k)⟩
def mX (G:List (Nat×Nat)) (O:OM):OM:=fun g=>(O g).bind (X0 G).f
theorem OK {G:List (Nat×Nat)} {r:Nat} (h:r∉keys G):(X0 G).r r=some (r,5):=by
 show some (r,match lk G r with | some d=>d | none=>5)=_
 rw [cL.2 h]
theorem OJ {G:List (Nat×Nat)} {O:OM} {r g:Nat} (h:r∉keys G) (hf:MM r (O g)):MM r (mX G O g):=by
 have e1:(X0 G).f (.r r)=some (.r r):=by simp only [Rb.f,OK h]; rfl
 have e2:∀ e c,(X0 G).f (.n r e c)=some (.n r e c):=fun e c=>by simp only [Rb.f,OK h]; rfl
 simp only [mX]
 rcases hf with hf | hf | hf | ⟨e,c,hf⟩<;>rw [hf]
 ·exact .inl rfl
 ·exact .inr (.inl rfl)
 ·exact .inr (.inr (.inl e1))
 ·exact .inr (.inr (.inr ⟨e,c,e2 e c⟩))
theorem uN (hR:Rel X m γ w) {G:List (Nat×Nat)} {r d:Nat} {row:Row} (hr:m.r r=some row) (hG:lk G r=some d) (hle:oq d row.ow=true) :
  cX X (mX G γ.O) w r { row with ow:=d } (γ.rv r) (γ.cv r) :=
 (hR.rs r row hr).relabel (a:=X0 G) (fun _=>by show some (r,match lk G r with | some d=>d | none=>5)=_; rw [hG]) hle fun g o hg _=>⟨hg,rfl⟩
section
variable {e0:Lk} {γ0:Gh} {w0:World} {a:Act}
theorem Gs {r p j:Nat} (h:SS r=some (p,j)):r=100000+p*64+j/\j<64/\100000<=r/\r<200000:=by
 simp only [SS] at h
 revert h; split
 ·rename_i h1 h2
  intro h
  have h1:=zQ h1
  have h2:=zQ h2
  simp only [zA,zG] at h
  obtain ⟨rfl,rfl⟩:=h
  omega
 ·intro h; cases h
theorem By {r:Nat} (h:m.OS r=true):∃ row,m.r r=some row/\row.ow=1:=by
 simp only [Lk.OS] at h
 cases hr:m.r r with
 | none=>rw [hr] at h; cases h
 | some row=>rw [hr] at h; exact ⟨row,rfl,aM h⟩
theorem Sx (hI:Inv X e0 γ0 w0 S γ a w) {x:Cv} {y:Ct} {v:Value} (hx:bu S.lk γ x v) (h:(S.lk.vw x).ct=some y) {G:List (Nat×Nat)} (hs:∀ r∈x.rk,r∉keys G) :
  rX X e0 γ0 (keys G) (mX G γ.O) w 1 (.m y) v []:=by
 refine ⟨rfl,hx.one hI.rel,?_⟩
 cases y with
 | l τ xs =>
  have ⟨⟨cs,hv⟩,_⟩:=BD (Le.refl _) hI.rel hx h
  refine ⟨cs,hv.mono fun g o hg ha=>⟨hg,?_⟩⟩
  simp only [U3] at ha
  cases hr:x.row with
  | none=>rw [hr] at ha; exact ha.elim
  | some r =>
   rw [hr] at ha
   have CQ:=hs r (by simp [Cv.rk,hr])
   exact ⟨r,CQ,OJ CQ ha⟩
 | _=>revert h; cases S.lk.vw x<;>simp [Vw.ct]
theorem KE (hI:Inv X e0 γ0 w0 S γ a w) {wd:Nat} {x:Cv} {y:Rc} {ks:List Nat} {v:Value} (hx:bu S.lk γ x v) (h:S.lk.uU wd x=some (y,ks)) {G:List (Nat×Nat)} (hG:∀ r∈ks,lk G r=some wd)
  (hs:wd=1->∀ r∈x.rk,r∉keys G):rX X e0 γ0 (keys G) (mX G γ.O) w wd y v ks:=by
 have one:=hx.one hI.rel
 have unk:∀ {y:Rc} {ks:List Nat},some (Rc.un,([]:List Nat))=some (y,ks)->rX X e0 γ0 (keys G) (mX G γ.O) w wd y v ks:=by
  intro y ks h; cases h; exact ⟨rfl,one⟩
 have own:∀ {y:Rc} {ks:List Nat} {τ:Ty} {xs:List (El τ)} {r:Nat} {cs:List Value},sf wd=true->cX X (mX G γ.O) w r ⟨τ,xs,wd⟩ v cs->some (Rc.c (.l τ xs),[r])=some (y,ks)->rX X e0 γ0 (keys G) (mX G γ.O) w wd y v ks:=by
  intro y ks τ xs r cs hd hr h
  cases h
  exact ⟨.inl hd,.inr ⟨r,cs,rfl,hr⟩⟩
 have mm:∀ {y:Rc} {ks:List Nat},wd=1->(match (S.lk.vw x).ct with | some y=>some (Rc.m y,([]:List Nat)) | none=>none)=some (y,ks)->rX X e0 γ0 (keys G) (mX G γ.O) w wd y v ks:=by
  intro y ks h1 h
  cases hc:(S.lk.vw x).ct with
  | none=>rw [hc] at h; cases h
  | some c=>rw [hc] at h; cases h; subst h1; exact Sx hI hx hc (hs rfl)
 cases x with
 | un =>
  simp only [Lk.uU] at h
  revert h; split
  ·exact unk
  ·intro h; cases h
 | b z=>cases h; exact ⟨rfl,hx⟩
 | i k n=>cases h; exact ⟨rfl,hx⟩
 | s z=>cases h; exact ⟨rfl,hx⟩
 | nl τ =>
  simp only [Lk.uU] at h
  revert h; split
  ·intro h; cases h
   exact ⟨rfl,one,[],⟨by simp,.inl ⟨hx,rfl⟩⟩,fun e c ct he=>by simp at he⟩
  ·exact unk
  ·intro h; cases h; exact ⟨.inr rfl,.inl ⟨rfl,hx,rfl⟩⟩
  ·cases hd:sf wd with
   | false=>intro h; cases h
   | true=>intro h; cases h; exact ⟨.inl hd,.inl ⟨rfl,hx,rfl⟩⟩
 | sw r =>
  obtain ⟨⟨row,hr⟩,hv⟩:=hx
  simp only [Lk.uU] at h
  revert h; split
  ·exact mm rfl
  ·exact unk
  ·split
   ·rename_i p j hk hb
    intro h; cases h
    obtain ⟨h1,h2,h3,h4⟩:=Gs hk
    obtain ⟨row',cC,ho⟩:=By hb
    rw [hr] at cC; cases cC
    obtain ⟨i1,i2,i3⟩:=hI.i3 r row h3 (by omega) hr ho
    subst h1
    exact ⟨rfl,row,h2,h4,i1,by rw [hv,i2]⟩
   ·intro h; cases h
  ·rw [hr]; simp only
   cases hd:sf wd with
   | false=>intro h; cases h
   | true =>
    cases hle:oq wd row.ow with
    | false=>intro h; cases h
    | true =>
     intro h
     have br:=uN hI.rel (G:=G) hr (d:=wd) (hG r (by cases h; simp)) hle
     rw [← hv] at br
     exact own hd br h
 | sl r off len =>
  obtain ⟨row,hr,adr,sr⟩:=hx
  simp only [Lk.uU] at h
  revert h; split
  ·exact mm rfl
  ·exact unk
  ·intro h; cases h
  ·simp only [hr]
   cases hd:ZO off wd with
   | false=>intro h; cases h
   | true =>
    cases hle:oq wd row.ow with
    | false=>intro h; cases h
    | true =>
     intro h
     have br:=uN hI.rel (G:=G) hr (d:=wd) (hG r (by cases h; simp)) hle
     obtain ⟨cs',hp⟩:=br.part hd adr sr
     exact own (Vc hd) hp h
 | nw r e c =>
  obtain ⟨row,τ,ys,hr,he,hc,hu⟩:=hx
  simp only [Lk.uU] at h
  revert h; split
  ·exact mm rfl
  ·exact unk
  ·split
   ·rename_i p j hk hb
    intro h; cases h
    obtain ⟨h1,h2,h3,h4⟩:=Gs hk
    obtain ⟨row',cC,ho⟩:=By hb
    rw [hr] at cC; cases cC
    obtain ⟨i1,i2,i3⟩:=hI.i3 r row h3 (by omega) hr ho
    subst h1
    exact ⟨rfl,row,τ,ys,h2,h4,i1,he,hc,by rw [← i3]; exact hu⟩
   ·intro h; cases h
  ·intro h; cases h
 | ns r e c off len =>
  simp only [Lk.uU] at h
  revert h; split
  ·exact mm rfl
  ·exact unk
  ·intro h; cases h
  ·intro h; cases h
 | pv k c =>
  simp only [Lk.uU] at h
  revert h; split
  ·exact mm rfl
  ·exact unk
  ·intro h; cases h
  ·intro h; cases h
 | pe r e c =>
  simp only [Lk.uU] at h
  revert h; split
  ·exact mm rfl
  ·exact unk
  ·intro h; cases h
  ·intro h; cases h
 | pn r e c k d =>
  simp only [Lk.uU] at h
  revert h; split
  ·exact mm rfl
  ·exact unk
  ·intro h; cases h
  ·intro h; cases h
 | fn f caps =>
  simp only [Lk.uU] at h
  revert h; split
  ·exact mm rfl
  ·exact unk
  ·intro h; cases h
  ·intro h; cases h
def WV (ks:List Nat) (d:Nat):List (Nat×Nat):=ks.map fun r=>(r,d)
theorem CL (ks:List Nat) (d:Nat):keys (WV ks d)=ks:=by simp [WV,keys_eq,Function.comp_def]
theorem EP {ks:List Nat} {d:Nat} {G:List (Nat×Nat)} (h:∀ p∈WV ks d,lk G p.1=some p.2):∀ r∈ks,lk G r=some d:=fun r hr=>h (r,d) (List.mem_map.2 ⟨r,hr,rfl⟩)
theorem xz (hI:Inv X e0 γ0 w0 S γ a w):∀ {l:List Cv} {us:List Value} {ms:List Nat} {ys:List Rc} {ks:List Nat},cj S.lk γ l us->S.lk.vh ms l=some (ys,ks) ->
  ∃ g,keys g=ks/\∀ G,(∀ p∈g,lk G p.1=some p.2)->(∀ r∈Db ms l,r∉keys G)->nr X e0 γ0 (keys G) (mX G γ.O) w ms ys us ks
 | [],us,ms,ys,ks,hl,h=>by cases hl; cases h; exact ⟨[],rfl,fun G _ _=> .nil⟩
 | x::l,us,ms,ys,ks,hl,h=>by
  cases hl with
  | cons hx hl =>
   simp only [Lk.vh] at h
   cases h1:S.lk.uU (hd ms) x with
   | none=>simp [h1] at h
   | some p =>
    obtain ⟨y,k⟩:=p
    cases h2:S.lk.vh (tl ms) l with
    | none=>simp [h1,h2] at h
    | some q =>
     obtain ⟨yl,kl⟩:=q
     simp only [h1,h2,zA,zG] at h
     obtain ⟨rfl,rfl⟩:=h
     obtain ⟨g,hg,ih⟩:=xz hI hl h2
     refine ⟨WV k (hd ms)++g,by rw [bC,CL,hg],fun G hG hs=> .cons (KE hI hx h1 (EP fun p hp=>hG p (List.mem_append_left _ hp)) fun hm r hr=>hs r ?_) (ih G (fun p hp=>hG p (List.mem_append_right _ hp)) fun r hr=>hs r ?_)⟩
     ·simp only [Db,hm,zH]; exact .inl hr
     ·simp only [Db,zH]; exact .inr hr
theorem HC (hI:Inv X e0 γ0 w0 S γ a w):∀ {l:List (Bool×List Cv)} {us:List Value} {ms:List (List Nat)} {ys:List (Bool×List Rc)} {ks:List Nat},s8 S.lk γ l us->S.lk.DT ms l=some (ys,ks) ->
  ∃ g,keys g=ks/\∀ G,(∀ p∈g,lk G p.1=some p.2)->(∀ r∈PC ms l,r∉keys G)->qH X e0 γ0 (keys G) (mX G γ.O) w ms ys us ks
 | [],us,ms,ys,ks,hl,h=>by cases hl; cases h; exact ⟨[],rfl,fun G _ _=> .nil⟩
 | (b,x)::l,us,ms,ys,ks,hl,h=>by
  cases hl with
  | cons hx hl =>
   obtain ⟨u,hu,hb1,ZC⟩:=hx
   simp only [Lk.DT] at h
   cases h1:S.lk.vh (ov ms) x with
   | none=>simp [h1] at h
   | some p =>
    obtain ⟨y,k⟩:=p
    cases h2:S.lk.DT (tl ms) l with
    | none=>simp [h1,h2] at h
    | some q =>
     obtain ⟨yl,kl⟩:=q
     simp only [h1,h2,zA,zG] at h
     obtain ⟨rfl,rfl⟩:=h
     obtain ⟨g1,Il,i1⟩:=xz hI hu h1
     obtain ⟨g,hg,ih⟩:=HC hI hl h2
     refine ⟨g1++g,by rw [bC,Il,hg],fun G hG hs=> .cons (i1 G (fun p hp=>hG p (List.mem_append_left _ hp)) fun r hr=>hs r ?_) hb1 ZC (ih G (fun p hp=>hG p (List.mem_append_right _ hp)) fun r hr=>hs r ?_)⟩
     ·simp only [PC,zH]; exact .inl hr
     ·simp only [PC,zH]; exact .inr hr
theorem S3 (hI:Inv X e0 γ0 w0 S γ a w) {v:AV} {u:Value} {rl:List (List Nat)} {rc:RC} {ks:List Nat} (hv:bq S.lk γ v u) (h:S.lk.MB rl v=some (rc,ks)) :
  ∃ g,keys g=ks/\∀ G,(∀ p∈g,lk G p.1=some p.2)->(∀ r∈S.lk.W6 rl v,r∉keys G)->vS X e0 γ0 (keys G) (mX G γ.O) w rl rc u ks:=by
 cases v with
 | c x =>
  have one:bu S.lk γ x u->(match S.lk.uU (hd (ov rl)) x with | some (y,a)=>some (RC.c y,a) | none=>none)=some (rc,ks)->S.lk.W6 rl (.c x)=Db (ov rl) [x] ->
    ∃ g,keys g=ks/\∀ G,(∀ p∈g,lk G p.1=some p.2)->(∀ r∈S.lk.W6 rl (.c x),r∉keys G)->vS X e0 γ0 (keys G) (mX G γ.O) w rl rc u ks:=by
   intro hx h Gl
   cases h1:S.lk.uU (hd (ov rl)) x with
   | none=>rw [h1] at h; cases h
   | some p =>
    obtain ⟨y,k⟩:=p
    rw [h1] at h; cases h
    refine ⟨WV ks (hd (ov rl)),CL _ _,fun G hG hs=>KE hI hx h1 (EP hG) fun hm r hr=>hs r ?_⟩
    rw [Gl]
    simp only [Db,hm,zH]; exact .inl hr
  cases x with
  | un=>cases h
  | pv k c =>
   simp only [Lk.MB] at h
   revert h; split
   ·rename_i cs h1 h2 h3
    intro h
    have h1:=zQ h1
    have h2:=aM h2
    subst h2
    obtain ⟨_,hu⟩:=hv
    obtain ⟨b1,cur,e,b2,b3⟩:=hI.rel.vs k cs h3
    cases h4:S.lk.vh (ov rl) cs with
    | none=>rw [h4] at h; cases h
    | some p =>
     obtain ⟨y,k'⟩:=p
     rw [h4] at h; cases h
     obtain ⟨g,hg,i1⟩:=xz hI b3 h4
     refine ⟨g,hg,fun G hG hs=>⟨k,γ.vb k,cur,e,h1,hu,?_,b2,i1 G hG fun r hr=>hs r ?_⟩⟩
     ·simp only [mX,b1]; rfl
     ·simp only [Lk.W6,h3]; exact hr
   ·intro h; cases h
  | b x=>exact one (bq.to hv (by simp)) h rfl
  | i k n=>exact one (bq.to hv (by simp)) h rfl
  | s x=>exact one (bq.to hv (by simp)) h rfl
  | nl τ=>exact one (bq.to hv (by simp)) h rfl
  | sw r=>exact one (bq.to hv (by simp)) h rfl
  | sl r o n=>exact one (bq.to hv (by simp)) h rfl
  | nw r e c=>exact one (bq.to hv (by simp)) h rfl
  | ns r e c o n=>exact one (bq.to hv (by simp)) h rfl
  | pe r e c=>exact one (bq.to hv (by simp)) h rfl
  | pn r e c o n=>exact one (bq.to hv (by simp)) h rfl
  | fn f caps=>exact one (bq.to hv (by simp)) h rfl
 | a l =>
  obtain ⟨us,hu,hl⟩:=hv
  simp only [Lk.MB] at h
  cases h4:S.lk.vh (ov rl) l with
  | none=>rw [h4] at h; cases h
  | some p =>
   obtain ⟨y,k'⟩:=p
   rw [h4] at h; cases h
   obtain ⟨g,hg,i1⟩:=xz hI hl h4
   exact ⟨g,hg,fun G hG hs=>⟨us,hu,i1 G hG fun r hr=>hs r hr⟩⟩
 | t l =>
  obtain ⟨us,hu,hl⟩:=hv
  cases l with
  | nil =>
   cases hl; cases h
   exact ⟨[],rfl,fun G hG hs=>⟨rfl,hu⟩⟩
  | cons p l =>
   simp only [Lk.MB] at h
   cases h4:S.lk.DT rl (p::l) with
   | none=>rw [h4] at h; cases h
   | some q =>
    obtain ⟨y,k'⟩:=q
    rw [h4] at h; cases h
    obtain ⟨g,hg,i1⟩:=HC hI hl h4
    exact ⟨g,hg,fun G hG hs=>⟨us,hu,i1 G hG fun r hr=>hs r hr⟩⟩
 | g p q v=>cases h
theorem KS (hI:Inv X e0 γ0 w0 S γ a w) {k:Nat}:∀ {l:List Cv} {us:List Value} {ms:List Nat} {j:Nat} {ys:List Ct} {ks:List Nat},cj S.lk γ l us->S.lk.L7 k j ms l=some (ys,ks) ->
  ∃ g,keys g=ks/\∀ G,(∀ p∈g,lk G p.1=some p.2)->p7 X γ0 (mX G γ.O) w (300000+k*64+j) ms ys us ks
 | [],us,ms,j,ys,ks,hl,h=>by cases hl; cases h; exact ⟨[],rfl,fun G _=> .nil⟩
 | x::l,us,ms,j,ys,ks,hl,h=>by
  cases hl with
  | cons hx hl =>
   rename_i v us
   simp only [Lk.L7] at h
   cases h2:S.lk.L7 k (j+1) (tl ms) l with
   | none=>rw [h2] at h; cases h
   | some q =>
    obtain ⟨yl,kl⟩:=q
    rw [h2] at h; simp only at h
    obtain ⟨g,hg,ih⟩:=KS hI hl h2
    have fin:∀ {y:Ct} {k1:List Nat} {ys:List Ct} {ks:List Nat},(∀ G,(∀ r∈k1,lk G r=some (hd ms))->s9 X γ0 (mX G γ.O) w (300000+k*64+j) (hd ms) y v k1)->some (y::yl,k1++kl)=some (ys,ks) ->
      ∃ g,keys g=ks/\∀ G,(∀ p∈g,lk G p.1=some p.2)->p7 X γ0 (mX G γ.O) w (300000+k*64+j) ms ys (v::us) ks:=by
     intro y k1 ys ks hr h
     cases h
     exact ⟨WV k1 (hd ms)++g,by rw [bC,CL,hg],fun G hG=> .cons (hr G (EP fun p hp=>hG p (List.mem_append_left _ hp))) (ih G fun p hp=>hG p (List.mem_append_right _ hp))⟩
    revert h; split
    ·rename_i hm
     split
     ·intro h; exact fin (k1:=[]) (fun G _=>by rw [hm]; exact ⟨rfl,hx,trivial⟩) h
     ·intro h; exact fin (k1:=[]) (fun G _=>by rw [hm]; exact ⟨rfl,hx,trivial⟩) h
     ·intro h; exact fin (k1:=[]) (fun G _=>by rw [hm]; exact ⟨rfl,hx,trivial⟩) h
     ·intro h; cases h
    ·rename_i hm
     split
     ·rename_i r
      split
      ·rename_i y h1 h3
       intro h
       simp only [zB] at h1
       have F8:=aM h1.1
       have hr4:=zQ h1.2.1
       obtain ⟨row,hr,ho⟩:=By h1.2.2
       obtain ⟨_,hv⟩:=hx
       obtain ⟨_,i2,_⟩:=hI.i3 r row (by omega) (by omega) hr ho
       refine fin (k1:=[]) (fun G _=> ?_) h
       rw [hm]; exact ⟨rfl,by rw [hv,i2,F8]⟩
      ·intro h; cases h
     ·intro h; cases h
    ·rename_i hm0 hm1
     have big:∀ {τ:Ty} {xs:List (El τ)} {k1:List Nat} (G:List (Nat×Nat)),sf (hd ms)=true->LQ X (mX G γ.O) w (hd ms) τ xs v k1->s9 X γ0 (mX G γ.O) w (300000+k*64+j) (hd ms) (.l τ xs) v k1:=by
      intro τ xs k1 G h1 h2
      simp only [s9]
      revert h1 h2
      generalize hd ms=md at hm0 hm1
      intro h1 h2
      rcases mA h1 with rfl | rfl | rfl<;>exact ⟨h1,h2⟩
     split
     ·rename_i τ
      cases z6:sf (hd ms) with
      | false=>intro h; cases h
      | true=>intro h; exact fin (k1:=[]) (fun G _=>big G z6 (.inl ⟨rfl,hx,rfl⟩)) h
     ·rename_i r
      obtain ⟨⟨row,hr⟩,hv⟩:=hx
      rw [hr]; simp only
      cases z6:sf (hd ms) with
      | false=>intro h; cases h
      | true =>
       cases hle:oq (hd ms) row.ow with
       | false=>intro h; cases h
       | true =>
        intro h
        refine fin (k1:=[r]) (fun G hG=>big G z6 (.inr ⟨r,γ.cv r,rfl,?_⟩)) h
        rw [hv]
        exact uN hI.rel hr (hG r (by simp)) hle
     ·intro h; cases h
theorem H5 (hI:Inv X e0 γ0 w0 S γ a w):∀ {ms:List (List Nat)} {k:Nat} {vo:List (List Ct)} {ks:List Nat},k+ms.length<=1000->S.lk.D9 k ms=some (vo,ks) ->
  ∃ g,keys g=ks/\∀ G,(∀ p∈g,lk G p.1=some p.2)->xE X γ0 (mX G γ.O) w k ms vo ks
 | [],k,vo,ks,hk,h=>by cases h; exact ⟨[],rfl,fun G _=> .nil⟩
 | wd::ms,k,vo,ks,hk,h=>by
  simp only [zR] at hk
  simp only [Lk.D9] at h
  cases h1:S.lk.v k with
  | none=>simp [h1] at h
  | some cs =>
   cases h2:S.lk.D9 (k+1) ms with
   | none=>simp [h1,h2] at h
   | some q =>
    obtain ⟨yl,kl⟩:=q
    simp only [h1,h2] at h
    cases h3:S.lk.L7 k 0 wd cs with
    | none=>rw [h3] at h; cases h
    | some p =>
     obtain ⟨y,k1⟩:=p
     rw [h3] at h; cases h
     obtain ⟨b1,cur,e,b2,b3⟩:=hI.rel.vs k cs h1
     obtain ⟨g1,Il,i1⟩:=KS hI b3 h3
     obtain ⟨g,hg,ih⟩:=H5 hI (by omega) h2
     have Gp:=hI.i2 k (by omega)
     refine ⟨g1++g,by rw [bC,Il,hg],fun G hG=> .cons (cur:=cur) (e:=e) ?_ ?_ (i1 G fun p hp=>hG p (List.mem_append_left _ hp)) (ih G fun p hp=>hG p (List.mem_append_right _ hp))⟩
     ·simp only [mX]; rw [← Gp,b1]; rfl
     ·rw [← Gp]; exact b2
theorem A5 (hI:Inv X e0 γ0 w0 S γ a w):∀ {cn:List AC} {p:Nat} {ys:List Ct} {ks:List Nat},S.lk.zq p cn=some (ys,ks) ->
  ∃ g,keys g=ks/\∀ G,(∀ p∈g,lk G p.1=some p.2)->r8 X γ0 (mX G γ.O) w p cn ys ks
 | [],p,ys,ks,h=>by cases h; exact ⟨[],rfl,fun G _=> .nil⟩
 | x::l,p,ys,ks,h=>by
  have skip:(∀ τ xs,x≠ .io τ xs)->S.lk.zq (p+1) l=some (ys,ks)->∃ g,keys g=ks/\∀ G,(∀ p∈g,lk G p.1=some p.2)->r8 X γ0 (mX G γ.O) w p (x::l) ys ks:=by
   intro hx h
   obtain ⟨g,hg,ih⟩:=A5 hI h
   exact ⟨g,hg,fun G hG=> .skip hx (ih G hG)⟩
  cases x with
  | io τ xs =>
   simp only [Lk.zq] at h
   cases h1:S.lk.r (200000+p*64) with
   | none=>simp [h1] at h
   | some row =>
    cases h2:S.lk.zq (p+1) l with
    | none=>simp [h1,h2] at h
    | some q =>
     obtain ⟨yl,kl⟩:=q
     simp only [h1,h2] at h
     revert h; split
     ·rename_i h3 h4
      intro h; cases h
      simp only [zB] at h3
      have ho:=aM h3.1
      have hp:=zQ h3.2
      have hτ:=Cm h4
      obtain ⟨σ,zs,ow⟩:=row
      simp only at ho hτ; subst ho; subst hτ
      obtain ⟨g,hg,ih⟩:=A5 hI h2
      refine ⟨(200000+p*64,5)::g,by simp [keys,hg],fun G hG=> .io (cs:=γ.cv (200000+p*64)) ?_ (ih G fun q hq=>hG q (zJ _ hq))⟩
      have:=uN hI.rel (G:=G) h1 (d:=5) (hG (200000+p*64,5) zO) rfl
      rw [hI.i4 _ (by omega) (by omega)] at this
      exact this
     ·intro h; cases h
  | c y=>exact skip (by simp) h
  | a ys=>exact skip (by simp) h
  | p k=>exact skip (by simp) h
  | f g ks=>exact skip (by simp) h
  | al k c=>exact skip (by simp) h
theorem UZ (hI:Inv X e0 γ0 w0 S γ a w) {g:uw} {cn:List AC} {cP:List (List Ct)} {f:Func} {cr:CR} {u:Value} (he0:e0=(entry g cn cP).lk) {v:AV} (hv:bq S.lk γ v u)
  (bV:Jt X S f.results.toList=some v) (h:S.out X g cn f=some cr):FE X g cn cP γ0 w0 cr u w:=by
 simp only [St.out,bV] at h
 cases h1:S.lk.MB g.rl v with
 | none=>simp [h1] at h
 | some p1 =>
  obtain ⟨rc,ka⟩:=p1
  cases h2:S.lk.D9 0 g.vl with
  | none=>simp [h1,h2] at h
  | some p2 =>
   obtain ⟨vo,kb⟩:=p2
   cases h3:S.lk.zq 0 cn with
   | none=>simp [h1,h2,h3] at h
   | some p3 =>
    obtain ⟨io,kc⟩:=p3
    simp only [h1,h2,h3] at h
    cases hc:fC (ka++(kb++kc))&&(jG (S.lk.W6 g.rl v) (ka++(kb++kc))&&Nat.ble g.vl.length 1000) with
    | false=>rw [hc] at h; cases h
    | true =>
     rw [hc] at h; cases h
     simp only [zB] at hc
     have Ii:=gO.1 hc.1
     have Gl:=eT.1 hc.2.1
     have Nq:=zQ hc.2.2
     obtain ⟨g1,k1,i1⟩:=S3 hI hv h1
     obtain ⟨g2,k2,i2⟩:=H5 hI (k:=0) (by omega) h2
     obtain ⟨g3,k3,i3⟩:=A5 hI h3
     have hk:keys (g1++(g2++g3))=ka++(kb++kc):=by simp only [bC,k1,k2,k3]
     have hG:∀ p∈g1++(g2++g3),lk (g1++(g2++g3)) p.1=some p.2:=fun p hp=>gA (by rw [hk]; exact Ii) hp
     refine ⟨mX (g1++(g2++g3)) γ.O,ka,kb,kc,⟨hI.fr.os,hI.fr.tape,hI.fr.output,hI.fr.size,fun b hb ho=> ?_,fun b hb=> ?_⟩,Ii,?_,?_,?_⟩
     ·obtain ⟨b1,b2⟩:=hI.fr.pd b hb ho
      refine ⟨?_,b2⟩
      simp only [mX]
      rw [b1]
      rcases ho with ho | ho | ho<;>rw [ho]<;>rfl
     ·simp only [mX]; rw [hI.fr.top b hb]; rfl
     ·rw [← hk,← he0]
      exact i1 _ (fun p hp=>hG p (List.mem_append_left _ hp)) fun r hr=>by rw [hk]; exact Gl r hr
     ·exact i2 _ fun p hp=>hG p (List.mem_append_right _ (List.mem_append_left _ hp))
     ·exact i3 _ fun p hp=>hG p (List.mem_append_right _ (List.mem_append_right _ hp))
end
end Go.Soft
namespace Go.Soft
open Go
variable {X X':Ctx} {m M:Lk} {γ γ':Gh} {w w':World} {ρ:Operand->Value} {S T:St} {δ δ':Dl}
section
theorem Sl.cx (pr:X'.id=X.id) {O:OM} {c:Ff} {τ:Ty} {v:Value} {n:Nat} {cs:List Value} (h:Sl X O w c τ v n cs):Sl X' O w c τ v n cs:=by
 cases c with
 | own t=>exact ⟨by rw [pr]; exact h.1,h.2⟩
 | _=>exact h
theorem cX.cx (pr:X'.id=X.id) {O:OM} {k:Nat} {row:Row} {v:Value} {cs:List Value} (h:cX X O w k row v cs):cX X' O w k row v cs:=by
 refine ⟨h.top.cx pr,fun e c ct he hc=> ?_⟩
 obtain ⟨u,hu,hr⟩:=h.rU e c ct he hc
 refine ⟨u,hu,?_⟩
 cases ct with
 | u=>exact hr
 | l τ ys=>exact ⟨hr.1,hr.2.cx pr⟩
 | _=>exact hr
theorem Rel.cx (pr:X'.id=X.id) (h:Rel X m γ w):Rel X' m γ w:=⟨h.vs,fun k row hk=>(h.rs k row hk).cx pr⟩
theorem TR.cx (pr:X'.id=X.id) {g:uw} {cn:List AC} {cP:List (List Ct)} {args:List Value} (h:TR X g cn cP γ w args):TR X' g cn cP γ w args:=⟨h.rel.cx pr,h.top,h.args⟩
theorem LQ.cx (pr:X'.id=X.id) {O:OM} {md:Nat} {τ:Ty} {xs:List (El τ)} {v:Value} {ks:List Nat} (h:LQ X O w md τ xs v ks):LQ X' O w md τ xs v ks:=by
 rcases h with h | ⟨key,cs,h1,h2⟩
 ·exact .inl h
 ·exact .inr ⟨key,cs,h1,h2.cx pr⟩
variable {e0:Lk} {γ0:Gh} {K:List Nat} {O:OM}
theorem rX.cx (pr:X'.id=X.id) {md:Nat} {y:Rc} {v:Value} {ks:List Nat} (h:rX X e0 γ0 K O w md y v ks):rX X' e0 γ0 K O w md y v ks:=by
 cases y with
 | c ct =>
  cases ct with
  | l τ xs=>exact ⟨h.1,h.2.cx pr⟩
  | _=>exact h
 | _=>exact h
theorem nr.cx (pr:X'.id=X.id) {ms:List Nat} {y:List Rc} {v:List Value} {ks:List Nat} (h:nr X e0 γ0 K O w ms y v ks):nr X' e0 γ0 K O w ms y v ks:=by
 induction h with
 | nil=>exact .nil
 | cons h1 _ ih=>exact .cons (h1.cx pr) ih
theorem qH.cx (pr:X'.id=X.id) {ms:List (List Nat)} {y:List (Bool×List Rc)} {v:List Value} {ks:List Nat} (h:qH X e0 γ0 K O w ms y v ks):qH X' e0 γ0 K O w ms y v ks:=by
 induction h with
 | nil=>exact .nil
 | cons h1 h2 h3 _ ih=>exact .cons (h1.cx pr) h2 h3 ih
theorem vS.cx (pr:X'.id=X.id) {rl:List (List Nat)} {y:RC} {v:Value} {ks:List Nat} (h:vS X e0 γ0 K O w rl y v ks):vS X' e0 γ0 K O w rl y v ks:=by
 cases y with
 | u=>exact h
 | c x=>exact rX.cx pr h
 | a l=>obtain ⟨us,h1,h2⟩:=h; exact ⟨us,h1,h2.cx pr⟩
 | t l=>obtain ⟨us,h1,h2⟩:=h; exact ⟨us,h1,h2.cx pr⟩
 | np l=>obtain ⟨cv,g,cur,e,h1,h2,h3,h4,h5⟩:=h; exact ⟨cv,g,cur,e,h1,h2,h3,h4,h5.cx pr⟩
theorem s9.cx (pr:X'.id=X.id) {key md:Nat} {y:Ct} {v:Value} {ks:List Nat} (h:s9 X γ0 O w key md y v ks):s9 X' γ0 O w key md y v ks:=by
 revert h
 simp only [s9]
 split
 ·exact id
 ·exact id
 ·split
  ·exact fun h=>⟨h.1,h.2.cx pr⟩
  ·exact id
theorem p7.cx (pr:X'.id=X.id) {k:Nat} {ms:List Nat} {y:List Ct} {v:List Value} {ks:List Nat} (h:p7 X γ0 O w k ms y v ks):p7 X' γ0 O w k ms y v ks:=by
 induction h with
 | nil=>exact .nil
 | cons h1 _ ih=>exact .cons (h1.cx pr) ih
theorem xE.cx (pr:X'.id=X.id) {k:Nat} {ms:List (List Nat)} {y:List (List Ct)} {ks:List Nat} (h:xE X γ0 O w k ms y ks):xE X' γ0 O w k ms y ks:=by
 induction h with
 | nil=>exact .nil
 | cons h1 h2 h3 _ ih=>exact .cons h1 h2 (h3.cx pr) ih
theorem r8.cx (pr:X'.id=X.id) {p:Nat} {cn:List AC} {y:List Ct} {ks:List Nat} (h:r8 X γ0 O w p cn y ks):r8 X' γ0 O w p cn y ks:=by
 induction h with
 | nil=>exact .nil
 | io h1 _ ih=>exact .io (h1.cx pr) ih
 | skip h1 _ ih=>exact .skip h1 ih
theorem FE.cx (pr:X'.id=X.id) {g:uw} {cn:List AC} {cP:List (List Ct)} {cr:CR} {v:Value} (h:FE X g cn cP γ0 w cr v w'):FE X' g cn cP γ0 w cr v w':=by
 obtain ⟨O,ka,kb,kc,h1,h2,h3,h4,h5⟩:=h
 exact ⟨O,ka,kb,kc,h1,h2,h3.cx pr,h4.cx pr,h5.cx pr⟩
end
theorem CH.at {R:Type} {g:uw} {f:FuncId} {F:Ac R} (h:CH X g f F) (fn:Func):CH (X.at fn) g f F :=
 ⟨h.Gf,fun cn cP cr hF γ w args hp=>(h.ok cn cP cr hF γ w args (TR.cx (X:=X.at fn) (X':=X) rfl hp)).mono fun e w' ⟨v,h1,h2⟩=>⟨v,h1,FE.cx (X:=X) (X':=X.at fn) rfl h2⟩⟩
theorem sE.at {R:Type} {E:Env R} (h:sE X E) (fn:Func):sE (X.at fn) E:=⟨fun f g hg=>⟨(h.fn f g hg).1.at fn,(h.fn f g hg).2⟩,h.Gf⟩
theorem iH.at (h:iH X) (fn:Func):iH (X.at fn):=⟨h.ty,h.id,h.byte,h.eqs,h.mixed⟩
def Cr (tmps:Array Value):ResultVar->Sem Value
 | .tmp t=>pure (tmps.getD t undef)
 | .cell a t=>do loadVar t (← asAddr (tmps.getD a undef))
theorem Gy {a:Act} (hR:Rel X S.lk γ w) (hT:FO X S γ a) {r:ResultVar} {v:AV} (h:BE X S r=some v):∃ u,(Cr a.tmps r).run X.P w= .ok u w/\bq S.lk γ v u:=by
 cases r with
 | tmp t=>cases h; exact ⟨_,rfl,E9 hT t⟩
 | cell t T =>
  simp only [BE] at h
  have hg:=E9 hT t
  revert h; split
  ·rename_i c hc
   rw [hc] at hg
   cases hf:S.lk.from c with
   | none=>intro h; cases h
   | some cs =>
    simp only
    cases hb:Nat.ble (gj X.P T) cs.length&&De X.P T with
    | false=>intro h; cases h
    | true =>
     intro h; cases h
     simp only [zB] at hb
     have cT:c≠ .un:=fun e=>by subst e; cases hf
     have po:=bq.to hg cT
     obtain ⟨g,o,us,hp,_,_⟩:=Lt (Le.refl _) hR po hf
     obtain ⟨u,hu,Rm⟩:=K8 (Le.refl _) hR po hf hb.1 hb.2
     refine ⟨u,?_,Rm⟩
     rw [hp] at hu
     simp only [Cr,hp,asAddr]
     simpa [Instr.loadAt,Instr.sureAddr] using hu
  ·intro h; cases h
theorem HE {a:Act} (hR:Rel X S.lk γ w) (hT:FO X S γ a):∀ {l:List ResultVar} {v:List (Bool×List Cv)},th X S l=some v->∃ us,(l.mapM (Cr a.tmps)).run X.P w= .ok us w/\s8 S.lk γ v us/\us.length=l.length
 | [],v,h=>by cases h; exact ⟨[],by simp,.nil,rfl⟩
 | r::l,v,h=>by
  simp only [th] at h
  cases h1:BE X S r with
  | none=>simp [h1] at h
  | some x =>
   cases h2:th X S l with
   | none=>rw [h1,h2] at h; revert h; split<;>simp_all
   | some y =>
    obtain ⟨u,hu,Rm⟩:=Gy hR hT h1
    obtain ⟨us,TI,No,hl⟩:=HE hR hT h2
    refine ⟨u::us,?_,?_,by simp [hl]⟩
    ·simp only [List.mapM_cons,Sem.run_bind,hu,Result.andThen_ok,TI,Sem.run_pure]
    ·rw [h1,h2] at h
     cases x with
     | c z =>
      by_cases hz:z= .un
      ·subst hz; simp at h
      ·have ZY:v=(false,[z])::y:=by cases z<;>first | exact absurd rfl hz | (simp only [zA] at h; exact h.symm)
       subst ZY
       exact .cons ⟨[u],.cons (bq.to Rm hz) .nil,fun h=>(by cases h),fun _=>rfl⟩ No
     | a z =>
      simp only [zA] at h
      subst h
      obtain ⟨us',h3,h4⟩:=Rm
      exact .cons ⟨us',h4,fun _=>h3,fun h=>(by cases h)⟩ No
     | t z=>simp at h
     | g p q z=>simp at h
theorem Sz {a:Act} (hR:Rel X S.lk γ w) (hT:FO X S γ a) {fn:Func} {v:AV} (h:Jt X S fn.results.toList=some v):∃ u,(results fn a.tmps).run X.P w= .ok u w/\bq S.lk γ v u:=by
 have bV:∀ us,(fn.results.toList.mapM (Cr a.tmps)).run X.P w= .ok us w->(results fn a.tmps).run X.P w= .ok (if h:us.toArray.size=1 then us.toArray[0] else .tuple us.toArray) w:=by
  intro us TI
  have e:results fn a.tmps=(do
    let vs←fn.results.mapM (Cr a.tmps)
    pure (if h:vs.size=1 then vs[0] else .tuple vs)):=by
   simp only [results]
   congr 1
  rw [e,Array.mapM_eq_mapM_toList]
  simp only [Sem.run_bind,map_eq_pure_bind,bind_assoc,pure_bind,TI,Result.andThen_ok,Sem.run_pure]
 revert h bV
 generalize fn.results.toList=l
 intro h bV
 have many:th X S l=some (match v with | .t m=>m | _=>[])->(∃ m,v= .t m)->l.length≠1->∃ u,(results fn a.tmps).run X.P w= .ok u w/\bq S.lk γ v u:=by
  intro h1 hv hl
  obtain ⟨m,rfl⟩:=hv
  obtain ⟨us,TI,No,hlen⟩:=HE hR hT h1
  refine ⟨_,bV us TI,?_⟩
  rw [dif_neg (by simp; omega)]
  exact ⟨us,rfl,No⟩
 have step:(match th X S l with | some m=>some (AV.t m) | none=>none)=some v->l.length≠1->∃ u,(results fn a.tmps).run X.P w= .ok u w/\bq S.lk γ v u:=by
  intro h1 hl
  cases h2:th X S l with
  | none=>rw [h2] at h1; cases h1
  | some m=>rw [h2] at h1; cases h1; exact many h2 ⟨m,rfl⟩ hl
 match l,h,bV,step with
 | [r],h,bV,_ =>
  obtain ⟨u,hu,Rm⟩:=Gy hR hT h
  exact ⟨u,by simpa using bV [u] (by simp [hu]),Rm⟩
 | [],h,_,step=>exact step h (by simp)
 | _::_::_,h,_,step=>exact step h (by simp)
theorem ER:∀ (l:List AV) (n t:Nat),lk (JR n l) t=if n<=t then l[t-n]? else none
 | [],n,t=>by simp [JR,lk]
 | v::l,n,t=>by
  simp only [JR,lk,ER l (n+1) t]
  cases h:Nat.beq n t with
  | true=>have:=aM h; subst this; simp
  | false =>
   have cT:n≠t:=fun e=>by subst e; rw [Nat.beq_refl] at h; cases h
   by_cases h1:n+1<=t
   ·rw [if_pos h1,if_pos (by omega),show t-n=(t-(n+1))+1 by omega]; simp
   ·rw [if_neg h1,if_neg (by omega)]
theorem Oh {g:uw} {cn:List AC} {cP:List (List Ct)}:pQ (entry g cn cP):=by
 intro t p q v h
 have h:lk (JR 0 (se g.am 0 cn).1) t=some (.g p q v):=h
 rw [ER,if_pos (Nat.zero_le _),xc] at h
 cases hx:cn[t-0]? with
 | none=>rw [hx] at h; cases h
 | some x=>rw [hx] at h; cases x<;>simp [DX] at h
variable {R:Type} {E:Env R}
theorem Xv (r0:R) (hX:iH X) (hE:sE X E) {L:Live} {g:uw} {f:FuncId} {fn:Func} {body:Code} {lps:Nat->Loop R} {F:Ac R}
  (hf:X.P.funcs[f]? =some fn) (hb:fn.body=some body) (hl:GL (X.at fn) E L body lps)
  (hF:∀ cn cP,F cn cP=(fun _=>none)\/∃ n,F cn cP=Er X E L (lps n) g fn cn cP):CH X g f F:=by
 have hXf:=hX.at fn
 have ZV:=hE.at fn
 have euni:∀ n c s,gD (fun k:Ex×St->Option R=>exec (X.at fn) E L (lps n) c s fun e s=>k (e,s)):=fun n c s=>js ZV.Gf (fun c i l=>xG ZV.Gf hl n c i l) c s
 let G:List AC->(CR->Option R)->Ex×St->Option R:=fun cn k x=>match x.1 with
  | .exit _=>none
  | _=>match x.2.out (X.at fn) g cn fn with | some r=>k r | none=>none
 have nE:∀ n cn cP k,Er X E L (lps n) g fn cn cP k=exec (X.at fn) E L (lps n) body (entry g cn cP) fun e s=>(match e with
   | .exit _=>none
   | _=>match s.out X g cn fn with | some r=>k r | none=>none):=by
  intro n cn cP k; simp only [Er,hb]; rfl
 have wj:∀ (s:St) (cn:List AC),s.out (X.at fn) g cn fn=s.out X g cn fn:=fun s cn=>by
  have h1:∀ r,BE (X.at fn) s r=BE X s r:=fun r=>by cases r<;>rfl
  have h2:∀ l,th (X.at fn) s l=th X s l:=by
   intro l
   induction l with
   | nil=>rfl
   | cons r l ih=>simp only [th,h1,ih]
  have h3:∀ l,Jt (X.at fn) s l=Jt X s l:=by
   intro l
   simp only [Jt,h1,h2]
  simp only [St.out,h3]
 have Ue:∀ n cn cP k,Er X E L (lps n) g fn cn cP k=(fun k:Ex×St->Option R=>exec (X.at fn) E L (lps n) body (entry g cn cP) fun e s=>k (e,s)) (G cn k):=by
  intro n cn cP k
  rw [nE]
  show exec (X.at fn) E L (lps n) body (entry g cn cP) _=exec (X.at fn) E L (lps n) body (entry g cn cP) _
  congr 1
  funext e s
  show _=(match e with
   | .exit _=>none
   | _=>match s.out (X.at fn) g cn fn with | some r=>k r | none=>none)
  rw [wj]
 have hGu:∀ cn x,gD (fun k=>G cn k x):=by
  intro cn x
  obtain ⟨e,s⟩:=x
  have:gD (fun k:CR->Option R=>match s.out (X.at fn) g cn fn with | some r=>k r | none=>none):=by
   cases s.out (X.at fn) g cn fn with
   | none=>exact gD.none
   | some r=>exact gD.one r
  cases e with
  | exit i=>exact gD.none
  | normal=>exact this
  | ret=>exact this
 refine ⟨fun cn cP=> ?_,fun cn cP cr hK γ w args hp=> ?_⟩
 ·rcases hF cn cP with h | ⟨n,h⟩
  ·rw [h]; exact gD.none
  ·rw [h]
   have:=(euni n body (entry g cn cP)).bind (F:=fun x k=>G cn k x) (hGu cn)
   obtain ⟨o,ho⟩:=this
   exact ⟨o,fun k=>by rw [Ue]; exact ho k⟩
 ·rcases hF cn cP with h | ⟨n,h⟩
  ·rw [h] at hK; exact (bQ r0 hK).elim
  ·rw [h] at hK
   obtain ⟨oc,rP⟩:=euni n body (entry g cn cP)
   have Rt:∀ k,oc.bind (G cn k)=k cr:=fun k=>by
    rw [← hK k,Ue]; exact (rP (G cn k)).symm
   cases oc with
   | none=>exact (bQ r0 Rt).elim
   | some x =>
    obtain ⟨e,s⟩:=x
    have cT:(e= .normal\/e= .ret)/\s.out (X.at fn) g cn fn=some cr:=by
     have Zi:(∀ k:CR->Option R,(match s.out (X.at fn) g cn fn with | some r=>k r | none=>none)=k cr)->s.out (X.at fn) g cn fn=some cr:=by
      intro h
      cases ho:s.out (X.at fn) g cn fn with
      | none=>rw [ho] at h; exact (bQ r0 h).elim
      | some r=>rw [ho] at h; rw [jd r0 h]
     cases e with
     | exit i=>exact (bQ r0 Rt).elim
     | normal=>exact ⟨.inl rfl,Zi Rt⟩
     | ret=>exact ⟨.inr rfl,Zi Rt⟩
    obtain ⟨he,ho⟩:=cT
    have Z5:=TR.cx (X:=X) (X':=X.at fn) rfl hp
    refine calls_of_wp hf hb ?_
    have Qr:=lU.get Z5.args
    have hI:Inv (X.at fn) (entry g cn cP).lk γ w (entry g cn cP) γ { tmps:=args.toArray++Array.replicate (fn.ntmps-args.toArray.size) undef,defers:=[] } w:=by
     refine ⟨Z5.rel,Z5.top,⟨?_,fun t av ht=> ?_⟩,rfl,⟨rfl,rfl,rfl,Nat.le_refl _,fun _ _ _=>⟨rfl,rfl⟩,Z5.top⟩,fun k row _ _ h _=>⟨h,rfl,rfl⟩,fun _ _ _=>rfl,fun _ _=>rfl⟩
     ·show fn.ntmps<=_
      simp; omega
     ·have ht:lk (JR 0 (se g.am 0 cn).1) t=some av:=ht
      rw [ER,if_pos (Nat.zero_le _)] at ht
      obtain ⟨u,hu,hr⟩:=Qr.2 t av (by simpa using ht)
      have fW:t<args.length:=(zU.1 hu).1
      have:(args.toArray++Array.replicate (fn.ntmps-args.toArray.size) undef).getD t undef=u:=by
       rw [Array.getD_eq_getD_getElem?,Array.getElem?_append_left (by simpa using fW)]
       simp [hu]
      rw [this]; exact hr
    refine qE r0 hXf ZV hl (lpR r0 hXf ZV hl n) body (entry g cn cP) e s γ _ w _ (fun d hd=>Bw hl.nd hd) Oh hI rP fun hg γ' a' w' LN=> ?_
    have xU:a'.defers=[]/\∃ v,(results fn a'.tmps).run X.P w'= .ok v w'/\∃ v',Ending.returned v= .returned v'/\FE X g cn cP γ w cr v' w':=by
     refine ⟨LN.df,?_⟩
     cases hv:Jt (X.at fn) s fn.results.toList with
     | none=>simp [St.out,hv] at ho
     | some v =>
      obtain ⟨u,hu,Rm⟩:=Sz LN.rel LN.tmp hv
      exact ⟨u,hu,u,rfl,FE.cx (X:=X.at fn) (X':=X) rfl (UZ LN rfl Rm hv ho)⟩
    rcases he with rfl | rfl
    ·exact xU
    ·exact xU
end Go.Soft
namespace Go.Soft
open Go
inductive VT | b | i (k:IntKind) | s | l (τ:Ty) | n
def VT.T:VT->Type
 | .b=>Bool | .i _=>Int | .s=>ByteArray | .l τ=>List (El τ) | .n=>Nat
def HL:List VT->Type
 | []=>Unit
 | t::ts=>t.T×HL ts
def zz:(τ σ:Ty)->List (El σ)->Option (List (El τ))
 | .int,.int,x=>some x | .bool,.bool,x=>some x | .byte,.byte,x=>some x | .str,.str,x=>some x | .slot,.slot,x=>some x | .inode,.inode,x=>some x
 | .block,.block,x=>some x | .dep,.dep,x=>some x | .node,.node,x=>some x | .event,.event,x=>some x
 | _,_,_=>none
theorem Ck {τ σ:Ty} {x:List (El σ)} {y:List (El τ)} (h:zz τ σ x=some y):nk.l σ x=nk.l τ y/\Ct.l σ x=Ct.l τ y:=by
 cases τ<;>cases σ<;>simp only [zz,zA,reduceCtorEq] at h<;>subst h<;>exact ⟨rfl,rfl⟩
def nk.VL:nk->Option Bool | .b x=>some x | _=>none
def nk.Vu (k:IntKind):nk->Option Int | .i k' x=>(match Gj k k' with | true=>some x | false=>none) | _=>none
def nk.VW:nk->Option ByteArray | .s x=>some x | _=>none
def nk.lP (τ:Ty):nk->Option (List (El τ)) | .l σ x=>zz τ σ x | _=>none
def nk.aam:nk->Option Nat | .n x=>some x | _=>none
def VT.dec:(t:VT)->nk->Option t.T
 | .b,v=>v.VL
 | .i k,v=>v.Vu k
 | .s,v=>v.VW
 | .l τ,v=>v.lP τ
 | .n,v=>v.aam
def VT.enc:(t:VT)->t.T->nk
 | .b,x=> .b x | .i k,x=> .i k x | .s,x=> .s x | .l τ,x=> .l τ x | .n,x=> .n x
theorem VT.IY {t:VT} {v:nk} {x:t.T} (h:t.dec v=some x):v=t.enc x:=by
 cases t with
 | b =>
  cases v with
  | b y=>cases (h:some y=some x); rfl
  | _=>cases h
 | i k =>
  cases v with
  | i k' y =>
   have h:(match Gj k k' with | true=>some y | false=>none)=some x:=h
   cases hk:Gj k k' with
   | false=>rw [hk] at h; cases h
   | true=>rw [hk] at h; cases h; rw [rz hk]; rfl
  | _=>cases h
 | s =>
  cases v with
  | s y=>cases (h:some y=some x); rfl
  | _=>cases h
 | l τ =>
  cases v with
  | l σ y=>exact (Ck (h:zz τ σ y=some x)).1
  | _=>cases h
 | n =>
  cases v with
  | n y=>cases (h:some y=some x); rfl
  | _=>cases h
def JA:(ts:List VT)->List nk->Option (HL ts)
 | [],[]=>some ()
 | t::ts,v::l=>match t.dec v with
  | some x=>match JA ts l with | some y=>some (x,y) | none=>none
  | none=>none
 | _,_=>none
def OG:(ts:List VT)->HL ts->List nk
 | [],_=>[]
 | t::ts,(x,y)=>t.enc x::OG ts y
theorem Lo:∀ {ts:List VT} {l:List nk} {h:HL ts},JA ts l=some h->l=OG ts h
 | [],[],_,_=>rfl
 | [],_::_,_,h=>by cases h
 | _::_,[],_,h=>by cases h
 | t::ts,v::l,(x,y),h=>by
  simp only [JA] at h
  cases hv:t.dec v with
  | none=>rw [hv] at h; cases h
  | some x' =>
   cases hl:JA ts l with
   | none=>rw [hv,hl] at h; cases h
   | some y' =>
    rw [hv,hl] at h
    simp only [zA,zG] at h
    obtain ⟨rfl,rfl⟩:=h
    simp only [OG]
    rw [VT.IY hv,Lo hl]
def Ct.VL:Ct->Option Bool | .b x=>some x | _=>none
def Ct.Vu (k:IntKind):Ct->Option Int | .i k' x=>(match Gj k k' with | true=>some x | false=>none) | _=>none
def Ct.VW:Ct->Option ByteArray | .s x=>some x | _=>none
def Ct.lP (τ:Ty):Ct->Option (List (El τ)) | .l σ x=>zz τ σ x | _=>none
def VT.S8:(t:VT)->Ct->Option t.T
 | .b,v=>v.VL
 | .i k,v=>v.Vu k
 | .s,v=>v.VW
 | .l τ,v=>v.lP τ
 | .n,_=>none
def VT.Ve:(t:VT)->t.T->Ct
 | .b,x=> .b x | .i k,x=> .i k x | .s,x=> .s x | .l τ,x=> .l τ x | .n,_=> .u
theorem VT.RX {t:VT} {v:Ct} {x:t.T} (h:t.S8 v=some x):v=t.Ve x:=by
 cases t with
 | b =>
  cases v with
  | b y=>cases (h:some y=some x); rfl
  | _=>cases h
 | i k =>
  cases v with
  | i k' y =>
   have h:(match Gj k k' with | true=>some y | false=>none)=some x:=h
   cases hk:Gj k k' with
   | false=>rw [hk] at h; cases h
   | true=>rw [hk] at h; cases h; rw [rz hk]; rfl
  | _=>cases h
 | s =>
  cases v with
  | s y=>cases (h:some y=some x); rfl
  | _=>cases h
 | l τ =>
  cases v with
  | l σ y=>exact (Ck (h:zz τ σ y=some x)).2
  | _=>cases h
 | n=>cases h
def CT:List (Option VT)->Type
 | []=>Unit
 | some t::ts=>t.T×CT ts
 | none::ts=>CT ts
def Ct.isU:Ct->Bool | .u=>true | _=>false
def rZ:(ts:List (Option VT))->List Ct->Option (CT ts)
 | [],l=>(match l with | []=>some () | _=>none)
 | some t::ts,l=>(match l with
  | []=>none
  | v::l=>match t.S8 v with
   | some x=>(match rZ ts l with | some y=>some (x,y) | none=>none)
   | none=>none)
 | none::ts,l=>(match l with
  | []=>none
  | v::l=>match v.isU with
   | true=>rZ ts l
   | false=>none)
def vu:(ts:List (Option VT))->CT ts->List Ct
 | [],_=>[]
 | some t::ts,(x,y)=>t.Ve x::vu ts y
 | none::ts,y=> .u::vu ts y
theorem tG:∀ {ts:List (Option VT)} {l:List Ct} {h:CT ts},rZ ts l=some h->l=vu ts h
 | [],l,h,e=>by
  cases l with
  | nil=>rfl
  | cons v l=>cases e
 | some t::ts,l,h,e=>by
  cases l with
  | nil=>cases e
  | cons v l =>
   have e:(match t.S8 v with
    | some x=>(match rZ ts l with | some y=>some (x,y) | none=>none)
    | none=>none)=some h:=e
   cases hv:t.S8 v with
   | none=>rw [hv] at e; cases e
   | some x' =>
    cases hl:rZ ts l with
    | none=>rw [hv,hl] at e; cases e
    | some y' =>
     rw [hv,hl] at e
     cases e
     show v::l=t.Ve x'::vu ts y'
     rw [VT.RX hv,tG hl]
 | none::ts,l,h,e=>by
  cases l with
  | nil=>cases e
  | cons v l =>
   cases v with
   | u =>
    have e:rZ ts l=some h:=e
    show Ct.u::l= .u::vu ts h
    rw [tG e]
   | _=>cases e
inductive xW | c (t:Option VT) | a (ts:List (Option VT)) | p (k:Nat) | f (g:Nat) (ks:List Nat) | al (k c:Nat) | io (τ:Ty)
def xW.T:xW->Type
 | .c t=>CT [t] | .a ts=>CT ts | .io τ=>List (El τ) | _=>Unit
def AC.aaH:AC->List Ct | .c y=>[y] | _=>[]
def AC.ab8:AC->Option (List Ct) | .a y=>some y | _=>none
def AC.isP (k:Nat):AC->Bool | .p k'=>Nat.beq k k' | _=>false
def AC.isF (k:Nat) (ks:List Nat):AC->Bool | .f k' ks'=>Nat.beq k k'&&F4 ks ks' | _=>false
def AC.acg (k j:Nat):AC->Bool | .al k' j'=>Nat.beq k k'&&Nat.beq j j' | _=>false
def AC.Yl (τ:Ty):AC->Option (List (El τ)) | .io σ xs=>zz τ σ xs | _=>none
def Bn:Bool->Option Unit | true=>some () | false=>none
def xW.dec:(s:xW)->AC->Option s.T
 | .c t,v=>rZ [t] v.aaH
 | .a ts,v=>(match v.ab8 with | some l=>rZ ts l | none=>none)
 | .p k,v=>Bn (v.isP k)
 | .f g ks,v=>Bn (v.isF g ks)
 | .al k j,v=>Bn (v.acg k j)
 | .io τ,v=>v.Yl τ
def hdC (l:List Ct):Ct:=match l with | [x]=>x | _=> .u
def xW.enc:(s:xW)->s.T->AC
 | .c t,x=> .c (hdC (vu [t] x)) | .a ts,x=> .a (vu ts x) | .p k,_=> .p k | .f g ks,_=> .f g ks | .al k j,_=> .al k j | .io τ,x=> .io τ x
theorem BN {b:Bool} {x:Unit} (h:Bn b=some x):b=true:=by cases b<;>first | rfl | cases h
theorem xW.IY {s:xW} {y:AC} {x:s.T} (h:s.dec y=some x):y=s.enc x:=by
 cases s with
 | c t =>
  cases y with
  | c z =>
   have e:=tG (h:rZ [t] [z]=some x)
   show AC.c z= .c (hdC (vu [t] x))
   rw [← e]; rfl
  | _=>cases t<;>cases h
 | a ts =>
  cases y with
  | a z =>
   show AC.a z= .a (vu ts x)
   rw [← tG (h:rZ ts z=some x)]
  | _=>cases h
 | p k =>
  cases y with
  | p k'=>have:=aM (BN (h:Bn (Nat.beq k k')=some x)); subst this; rfl
  | _=>cases h
 | f g ks =>
  cases y with
  | f g' ks' =>
   have hk:(Nat.beq g g'&&F4 ks ks')=true:=BN (h:Bn (Nat.beq g g'&&F4 ks ks')=some x)
   simp only [zB] at hk
   have h1:=aM hk.1
   have h2:=FJ hk.2
   subst h1; subst h2; rfl
  | _=>cases h
 | al k j =>
  cases y with
  | al k' j' =>
   have hk:(Nat.beq k k'&&Nat.beq j j')=true:=BN (h:Bn (Nat.beq k k'&&Nat.beq j j')=some x)
   simp only [zB] at hk
   have h1:=aM hk.1
   have h2:=aM hk.2
   subst h1; subst h2; rfl
  | _=>cases h
 | io τ =>
  cases y with
  | io σ xs =>
   have h:zz τ σ xs=some x:=h
   show AC.io σ xs= .io τ x
   have e:=(Ck h).2
   injection e with h1 h2
   subst h1
   rw [eq_of_heq h2]
  | _=>cases h
def N3:List xW->Type
 | []=>Unit
 | s::l=>s.T×N3 l
def BA:(ss:List xW)->List AC->Option (N3 ss)
 | [],[]=>some ()
 | s::ss,v::l=>match s.dec v with
  | some x=>match BA ss l with | some y=>some (x,y) | none=>none
  | none=>none
 | _,_=>none
def Ho:(ss:List xW)->N3 ss->List AC
 | [],_=>[]
 | s::ss,(x,y)=>s.enc x::Ho ss y
theorem GR:∀ {ts:List xW} {l:List AC} {h:N3 ts},BA ts l=some h->l=Ho ts h
 | [],[],_,_=>rfl
 | [],_::_,_,h=>by cases h
 | _::_,[],_,h=>by cases h
 | t::ts,v::l,(x,y),h=>by
  simp only [BA] at h
  cases hv:t.dec v with
  | none=>rw [hv] at h; cases h
  | some x' =>
   cases hl:BA ts l with
   | none=>rw [hv,hl] at h; cases h
   | some y' =>
    rw [hv,hl] at h
    simp only [zA,zG] at h
    obtain ⟨rfl,rfl⟩:=h
    simp only [Ho]
    rw [xW.IY hv,GR hl]
def O4:List (List (Option VT))->Type
 | []=>Unit
 | s::l=>CT s×O4 l
def Ci:(ss:List (List (Option VT)))->List (List Ct)->Option (O4 ss)
 | [],[]=>some ()
 | s::ss,v::l=>match rZ s v with
  | some x=>match Ci ss l with | some y=>some (x,y) | none=>none
  | none=>none
 | _,_=>none
def Hn:(ss:List (List (Option VT)))->O4 ss->List (List Ct)
 | [],_=>[]
 | s::ss,(x,y)=>vu s x::Hn ss y
theorem Hd:∀ {ts:List (List (Option VT))} {l:List (List Ct)} {h:O4 ts},Ci ts l=some h->l=Hn ts h
 | [],[],_,_=>rfl
 | [],_::_,_,h=>by cases h
 | _::_,[],_,h=>by cases h
 | t::ts,v::l,(x,y),h=>by
  simp only [Ci] at h
  cases hv:rZ t v with
  | none=>rw [hv] at h; cases h
  | some x' =>
   cases hl:Ci ts l with
   | none=>rw [hv,hl] at h; cases h
   | some y' =>
    rw [hv,hl] at h
    simp only [zA,zG] at h
    obtain ⟨rfl,rfl⟩:=h
    simp only [Hn]
    rw [tG hv,Hd hl]
variable {R:Type}
abbrev vg (as:List xW) (vs:List (List (Option VT))) (G:N3 as->O4 vs->(CR->Option R)->Option R):Ac R:=fun cn cP k=>match BA as cn with
 | none=>none
 | some a=>match Ci vs cP with
  | none=>none
  | some v=>G a v k
structure LF (R:Type) where
 id:Nat
 i:Nat
 ts:List VT
 F:Nat->HL ts->(Ex->St->Option R)->Option R
def ye (id i:Nat):List (LF R)->Option (LF R)
 | []=>none
 | x::l=>match Nat.beq x.id id,Nat.beq x.i i with | true,true=>some x | _,_=>ye id i l
abbrev LF.run (x:LF R) (m:Nat) (l:List nk) (K:Ex->St->Option R):Option R:=match JA x.ts l with | none=>none | some h=>x.F m h K
abbrev wB (tab:List (LF R)) (m:Nat):Loop R:=fun id i l K=>match ye id i tab with | none=>none | some x=>x.run m l K
theorem vD {id i:Nat}:∀ {tab:List (LF R)} {x:LF R},ye id i tab=some x->x∈tab/\x.id=id/\x.i=i
 | [],_,h=>by cases h
 | y::l,x,h=>by
  simp only [ye] at h
  revert h; split
  ·rename_i h1 h2
   intro h; cases h
   exact ⟨zO,aM h1,aM h2⟩
  ·intro h
   obtain ⟨a,b⟩:=vD h
   exact ⟨zJ _ a,b⟩
variable {X:Ctx} {E:Env R} {L:Live} {body:Code}
structure SG (X:Ctx) (E:Env R) (L:Live) (body:Code) (tab:List (LF R)) (x:LF R):Prop where
 z:∀ h K,x.F 0 h K=none
 s:∃ c,getLoop x.id body=some c/\∀ m h K,round X E L (wB tab m) c x.i (OG x.ts h) K=x.F (m+1) h K
theorem Ox {tab:List (LF R)} (Ii:fC (um body)=true) (h:∀ x∈tab,SG X E L body tab x):GL X E L body (wB tab):=by
 refine ⟨fun id i l=> ?_,fun n id i l=> ?_,Ii⟩
 ·funext K
  simp only [wB]
  cases hf:ye id i tab with
  | none=>rfl
  | some x =>
   simp only [LF.run]
   cases hd:JA x.ts l with
   | none=>rfl
   | some a=>exact (h x (vD hf).1).z a K
 ·cases hf:ye id i tab with
  | none=>refine .inl ?_; funext K; simp only [wB,hf]
  | some x =>
   obtain ⟨hx,rfl,rfl⟩:=vD hf
   cases hd:JA x.ts l with
   | none=>refine .inl ?_; funext K; simp only [wB,hf,LF.run,hd]
   | some a =>
    obtain ⟨c,hc,hs⟩:=(h x hx).s
    refine .inr ⟨c,hc,?_⟩
    funext K
    simp only [wB,hf,LF.run,hd]
    rw [← hs n a K,← Lo hd]
abbrev Ez (l:List (Nat×(uw×Ac R))):Env R:=⟨fun f=>match lk l f with | some p=>some p.1 | none=>none,fun f=>match lk l f with | some p=>p.2 | none=>fun _ _ _=>none⟩
theorem OW {l:List (Nat×(uw×Ac R))} (h:∀ p∈l,CH X p.2.1 p.1 p.2.2/\vU X.P p.1):sE X (Ez l):=by
 refine ⟨fun f g hg=> ?_,fun f cn cP=> ?_⟩
 ·have hg:(match lk l f with | some p=>some p.1 | none=>none)=some g:=hg
  cases hl:lk l f with
  | none=>rw [hl] at hg; cases hg
  | some p =>
   rw [hl] at hg; cases hg
   obtain ⟨h1,h2⟩:=h (f,p) (cU hl)
   refine ⟨?_,h2⟩
   have:(Ez l).fn f=p.2:=by show (match lk l f with | some p=>p.2 | none=>fun _ _ _=>none)=_; rw [hl]
   rw [this]; exact h1
 ·show gD ((match lk l f with | some p=>p.2 | none=>fun _ _ _=>none) cn cP)
  cases hl:lk l f with
  | none=>exact gD.none
  | some p=>exact (h (f,p) (cU hl)).1.Gf cn cP
theorem Vg (r0:R) (hX:iH X) {env:List (Nat×(uw×Ac R))} (hE:∀ p∈env,CH X p.2.1 p.1 p.2.2/\vU X.P p.1) {L:Live} {g:uw} {f:FuncId} {fn:Func} {body:Code} {tab:List (LF R)}
  {as:List xW} {vs:List (List (Option VT))} {G:N3 as->O4 vs->(CR->Option R)->Option R} (n:Nat)
  (hf:X.P.funcs[f]? =some fn) (hb:fn.body=some body) (Ii:fC (um body)=true) (hl:∀ x∈tab,SG (X.at fn) (Ez env) L body tab x)
  (hF:∀ a v k,Er X (Ez env) L (wB tab n) g fn (Ho as a) (Hn vs v) k=G a v k):CH X g f (vg as vs G):=by
 refine Xv r0 hX (OW hE) hf hb (Ox Ii hl) fun cn cP=> ?_
 cases h1:BA as cn with
 | none=>refine .inl ?_; funext k; simp only [vg,h1]
 | some a =>
  cases h2:Ci vs cP with
  | none=>refine .inl ?_; funext k; simp only [vg,h1,h2]
  | some v =>
   refine .inr ⟨n,?_⟩
   funext k
   simp only [vg,h1,h2]
   rw [← hF a v k,← GR h1,← Hd h2]
theorem enters {P:Program} {f:FuncId} {fn:Func} (h:P.funcs[f]? =some fn) (h1:(fn.name == "runtime.NumGoroutine")=false) (h2:fn.body.isNone=false):vU P f:=⟨fn,h,h1,h2⟩
end Go.Soft
namespace Go.Soft
open Go
def ctB:Ct->Value->Bool
 | .b x,.bool y=>(match x,y with | true,true | false,false=>true | _,_=>false)
 | .i k n,.int k' n'=>Gj k k'&&decide (n=n')
 | .s x,.string y=>decide (x=y)
 | .l _ [],.slice none 0 0=>true
 | _,_=>false
def SA:List Ct->List Value->Bool
 | [],[]=>true
 | c::l,v::m=>ctB c v&&SA l m
 | _,_=>false
theorem U9 {c:Ct} {v:Value} (h:ctB c v=true):v=gJ c:=by
 revert h
 unfold ctB
 split
 ·intro h; rename_i x y; cases x<;>cases y<;>first | rfl | cases h
 ·intro h
  simp only [zB,zD] at h
  rw [rz h.1,h.2]; rfl
 ·intro h
  simp only [zD] at h
  rw [h]; rfl
 ·intro _; rfl
 ·intro h; cases h
theorem Km:∀ {l:List Ct} {m:List Value},SA l m=true->m=l.map gJ
 | [],[],_=>rfl
 | [],_::_,h=>by cases h
 | _::_,[],h=>by cases h
 | c::l,v::m,h=>by
  simp only [SA,zB] at h
  rw [List.map_cons,U9 h.1,Km h.2]
def ZQ (P:Program) (id:Ty->TypeId) (e:Nat) (τ:Ty):Bool:=match P.info? e with
 | none=>false
 | some i=>Nat.beq i.size (sz τ)&&(match Nat.beq (id τ) e with
  | false=>true
  | true=>match i.zero with | some z=>SA (cells τ (cy τ)) z.cells.toList&&Nat.ble i.bytes 128 | none=>false)
def Pc (P:Program) (e:Nat) (τ:Ty):Bool:=match τ with
 | .byte=>(match P.underlying e with | some (.int .u8)=>true | _=>false)
 | _=>true
def SK (X:Ctx):List (Nat×Ty)->Bool
 | []=>true
 | (e,τ)::l=>(ZQ X.P X.id e τ&&Pc X.P e τ)&&SK X l
theorem w6 {X:Ctx}:∀ {l:List (Nat×Ty)},SK X l=true->∀ e τ,(e,τ)∈l->ZQ X.P X.id e τ=true/\Pc X.P e τ=true
 | [],_,e,τ,h=>by cases h
 | (e',τ')::l,h,e,τ,hm=>by
  simp only [SK,zB] at h
  rcases zI.1 hm with hm | hm
  ·cases hm; exact h.1
  ·exact w6 h.2 e τ hm
theorem P7 {X:Ctx} (h:SK X X.ty=true) (heq:∀ t ks,lk X.eqs t=some ks->StructEq X.P t ks) (hm:X.P.follows .mixedOrders=true):iH X:=by
 refine ⟨fun e τ hl=> ?_,fun e τ hl pr=> ?_,fun e hl=> ?_,heq,hm⟩
 ·have:=(w6 h e τ (cU hl)).1
  simp only [ZQ] at this
  cases hi:X.P.info? e with
  | none=>rw [hi] at this; cases this
  | some i =>
   rw [hi] at this
   simp only [zB] at this
   exact ⟨i,rfl,aM this.1⟩
 ·have:=(w6 h e τ (cU hl)).1
  simp only [ZQ] at this
  cases hi:X.P.info? e with
  | none=>rw [hi] at this; cases this
  | some i =>
   rw [hi,pr] at this
   simp only [zB,Nat.beq_refl] at this
   cases hz:i.zero with
   | none=>rw [hz] at this; exact absurd this.2 (by simp)
   | some z =>
    rw [hz] at this
    have h2:=this.2
    simp only [zB] at h2
    exact ⟨i,z,rfl,hz,Km h2.1,zQ h2.2⟩
 ·have:=(w6 h e .byte (cU hl)).2
  simp only [Pc] at this
  revert this; split
  ·rename_i hu; intro _; exact hu
  ·intro h; cases h
theorem aew {X:Ctx} (h:X.eqs=[]):∀ t ks,lk X.eqs t=some ks->StructEq X.P t ks:=by
 intro t ks ht; rw [h] at ht; cases ht
def aA (n:Int):Int:=IntKind.i64.wrap n
def lY (a b:ByteArray):Bool:=decide (a.size+b.size<=4611686018427387904)
def Yg (a b:Int):Bool:=(a==b)&&(decide (0<=a)&&Nat.ble a.toNat NM)
def bg {α:Type} (l:List α):Bool:=Nat.ble l.length NM
def qh (l:Int) (n:Nat):Bool:=decide (0<=l)&&decide (l<=(n:Int))
def km (l h:Int) (n:Nat):Bool:=decide (0<=l)&&(decide (l<=h)&&decide (h<=(n:Int)))
def S (l:List UInt8):ByteArray:=⟨⟨l⟩⟩
def eS:ByteArray:= .empty
def zm (l:List UInt8):ByteArray:=⟨⟨l⟩⟩
def aq:Slot:=cy .slot
def az:aV:=cy .inode
def aC:Block:=cy .block
def aJ:bG:=cy .dep
def eK:Node:=cy .node
end Go.Soft
namespace Go.Soft
open Go
theorem Jq {R:Type} (r0:R) {X:Ctx} {g:uw} {f:FuncId} {as:List xW} {vs:List (List (Option VT))} {G:N3 as->O4 vs->(CR->Option R)->Option R} (h:∀ a v k,G a v k=none):CH X g f (vg as vs G):=by
 have hn:∀ cn cP,vg as vs G cn cP=fun _=>none:=by
  intro cn cP
  funext k
  simp only [vg]
  cases BA as cn with
  | none=>rfl
  | some a =>
   cases Ci vs cP with
   | none=>rfl
   | some v=>exact h a v k
 exact ⟨fun cn cP=>by rw [hn]; exact gD.none,fun cn cP cr hK=>by rw [hn] at hK; exact (bQ r0 hK).elim⟩
end Go.Soft
namespace Go.Soft
open Go
variable {P:Program} {M:Lk} {γ:Gh} {w:World}
def ZN (P:Program):Nat->List Ct->List Field->Bool
 | _,[],[]=>true
 | i,c::l,f::fs=>(Nat.beq f.offset i&& !(f.name == "_"))&&((match P.info? f.type with | some _=>true | none=>false)&&(match P.underlying f.type,c with
   | some .bool,.b _=>true | some .string,.s _=>true | some (.int _),.i _ _=>true | _,_=>false))&&ZN P (i+1) l fs
 | _,_,_=>false
theorem KK {us:List Value} {i:Nat} {u:Value} {t:TypeId} (hu:us[i]? =some u) (ht:P.underlying t=some .bool\/P.underlying t=some .string\/∃ k,P.underlying t=some (.int k)) :
  (part t us.toArray i).run P w= .ok u w:=by
 have NT:(isAgg t).run P w= .ok false w:=by
  rcases ht with h | h | ⟨k,h⟩<;>simp [isAgg,run_underlying h]
 simp only [part,Sem.run_bind,NT,Result.andThen_ok,Bool.false_eq_true,if_false]
 simp [hu]
theorem va {x:Cv} {l:List Cv} {us:List Value} {i:Nat} (h:cj M γ (x::l) (us.drop i)):∃ u,us[i]? =some u/\bu M γ x u/\cj M γ l (us.drop (i+1)):=by
 generalize hd:us.drop i=r at h
 cases h with
 | cons hx hl =>
  rename_i u us'
  have h0:us[i]? =some u:=by
   have:=congrArg (fun l=>l[0]?) hd
   simpa [List.getElem?_drop] using this
  have h1:us.drop (i+1)=us':=by
   have:=congrArg List.tail hd
   simpa [List.tail_drop] using this
  exact ⟨u,h0,hx,h1▸hl⟩
theorem T0 {us vs:List Value} {d:Nat}:∀ {fs:List Field} {ks:List Ct} {i:Nat} {l m:List Cv},ZN P i ks fs=true->nB ks l=true->nB ks m=true->cj M γ l (us.drop i)->cj M γ m (vs.drop i)->∀ c,zl l m=some c ->
  (Op.eqFields (d+1) us.toArray vs.toArray fs).run P w= .ok c w
 | [],[],i,l,m,_,h1,h2,_,_,c,hc=>by
  cases l with
  | cons=>cases h1
  | nil =>
   cases m with
   | cons=>cases h2
   | nil=>cases hc; rfl
 | [],_::_,_,_,_,hs,_,_,_,_,_,_=>by cases hs
 | _::_,[],_,_,_,hs,_,_,_,_,_,_=>by cases hs
 | f::fs,k::ks,i,l,m,hs,h1,h2,hu,hv,c,hc=>by
  cases l with
  | nil=>cases h1
  | cons x l =>
   cases m with
   | nil=>cases h2
   | cons y m =>
    simp only [ZN,zB] at hs
    obtain ⟨⟨⟨ho,hn⟩,_,hk⟩,hs⟩:=hs
    have ho:=aM ho
    have hn:f.name ≠ "_" := by simpa using hn
    simp only [nB,zB] at h1 h2
    obtain ⟨u,u1,u2,u3⟩:=va hu
    obtain ⟨v,v1,v2,v3⟩:=va hv
    simp only [zl] at hc
    cases ND:N7 x y with
    | none=>rw [ND] at hc; cases hc
    | some a =>
     cases Ua:zl l m with
     | none=>rw [ND,Ua] at hc; cases hc
     | some b =>
      rw [ND,Ua] at hc
      have Dx:c=(a&&b):=by
       cases l with
       | nil =>
        cases m with
        | nil=>cases Ua; simp at hc; rw [← hc]; simp
        | cons=>cases Ua
       | cons=>simp at hc; exact hc.symm
      have ih:=T0 (us:=us) (vs:=vs) (d:=d) hs h1.2 h2.2 u3 v3 b Ua
      have fld:(P.underlying f.type=some .bool\/P.underlying f.type=some .string\/∃ k,P.underlying f.type=some (.int k))/\(Op.equalIn (d+1) f.type u v).run P w= .ok a w:=by
       revert hk; split
       ·rename_i ht
        intro _
        refine ⟨.inl ht,?_⟩
        cases x<;>cases y<;>simp [KG] at h1 h2
        simp only [N7,zA] at ND
        rw [show u=_ from u2,show v=_ from v2,run_equalIn_bool' _ _ _ _ _ ht,ND]
       ·rename_i ht
        intro _
        refine ⟨.inr (.inl ht),?_⟩
        cases x<;>cases y<;>simp [KG] at h1 h2
        simp only [N7,zA] at ND
        rw [show u=_ from u2,show v=_ from v2,run_equalIn_string _ _ _ _ _ ht,← beq_toListBytes,ND]
       ·rename_i k' n ki ht
        intro _
        refine ⟨.inr (.inr ⟨_,ht⟩),?_⟩
        cases x<;>cases y<;>simp only [KG,Bool.false_eq_true,false_and] at h1 h2
        rename_i ka na kb nb
        have e1:=rz h1.1
        have e2:=rz h2.1
        simp only [N7,zA] at ND
        rw [show u=_ from u2,show v=_ from v2,← e1,← e2,run_equalIn_int _ _ _ _ _ _ _ ht,ND]
       ·intro h; cases h
      simp only [Op.eqFields,if_pos hn,Sem.run_bind,ho]
      rw [KK u1 fld.1]
      simp only [Result.andThen_ok]
      rw [KK v1 fld.1]
      simp only [Result.andThen_ok,fld.2,Dx]
      cases a with
      | false=>simp
      | true=>simpa using ih
theorem GW {t:TypeId} {ks:List Ct} {fs:Array Field} (ht:P.underlying t=some (.struct fs)) (hp:P.stoodInHeld t=false) (hg:P.eqGuardType P.depth t=false) (hs:ZN P 0 ks fs.toList=true):StructEq P t ks:=by
 intro l m us vs c γ M w h1 h2 hu hv hc
 have hf:P.fieldsOf t=fs:=by simp only [Program.fieldsOf,ht]
 have J3:P.underlying t=some (.struct (P.fieldsOf t)):=by rw [hf]; exact ht
 simp only [Sem.run_bind,run_eqGuard_agg w .eql t (.tmp 0) (.tmp 0) us.toArray vs.toArray hg,Result.andThen_ok]
 show (Op.equalIn (9999+1) t (.agg us.toArray) (.agg vs.toArray)).run P w=_
 rw [run_equalIn_struct w 9999 t _ _ J3 hp,hf]
 exact T0 (d:=9998) hs h1 h2 (by simpa using hu) (by simpa using hv) c hc
end Go.Soft
namespace Go.Soft
open Go
variable {R:Type}
def Cu:List VT->Type->Type
 | [],Y=>Y
 | t::ts,Y=>t.T->Cu ts Y
abbrev apH {Y:Type}:(ts:List VT)->Cu ts Y->HL ts->Y
 | [],f,_=>f
 | _::ts,f,h=>apH ts (f h.1) h.2
def CuA:List xW->Type->Type
 | [],Y=>Y
 | s::l,Y=>s.T->CuA l Y
abbrev apA {Y:Type}:(ss:List xW)->CuA ss Y->N3 ss->Y
 | [],f,_=>f
 | _::l,f,h=>apA l (f h.1) h.2
def CuV:List (List (Option VT))->Type->Type
 | [],Y=>Y
 | s::l,Y=>CT s->CuV l Y
abbrev apV {Y:Type}:(ss:List (List (Option VT)))->CuV ss Y->O4 ss->Y
 | [],f,_=>f
 | _::l,f,h=>apV l (f h.1) h.2
def W7:(ts:List VT)->(HL ts->Prop)->Prop
 | [],p=>p ()
 | _::ts,p=>∀ x,W7 ts fun y=>p (x,y)
theorem W7.all:∀ {ts:List VT} {p:HL ts->Prop},W7 ts p->∀ h,p h
 | [],_,h,_=>h
 | _::ts,p,h,(x,y)=>W7.all (ts:=ts) (p:=fun y=>p (x,y)) (h x) y
def NQ:(ts:List (Option VT))->(CT ts->Prop)->Prop
 | [],p=>p ()
 | some t::ts,p=>∀ x:t.T,NQ ts fun y=>p (x,y)
 | none::ts,p=>NQ ts p
theorem NQ.all:∀ {ts:List (Option VT)} {p:CT ts->Prop},NQ ts p->∀ h,p h
 | [],_,h,_=>h
 | some _::ts,p,h,(x,y)=>NQ.all (ts:=ts) (p:=fun y=>p (x,y)) (h x) y
 | none::ts,p,h,y=>NQ.all (ts:=ts) (p:=p) h y
def ZM:(s:xW)->(s.T->Prop)->Prop
 | .c t,p=>NQ [t] p
 | .a ts,p=>NQ ts p
 | .io _,p=>∀ x,p x
 | .p _,p=>p ()
 | .f _ _,p=>p ()
 | .al _ _,p=>p ()
theorem ZM.all {s:xW} {p:s.T->Prop} (h:ZM s p):∀ x,p x:=by
 cases s with
 | c t=>exact NQ.all (ts:=[t]) h
 | a ts=>exact NQ.all (ts:=ts) h
 | io τ=>exact h
 | p k=>exact fun _=>h
 | f g l=>exact fun _=>h
 | al k j=>exact fun _=>h
def Yq:(ss:List xW)->(N3 ss->Prop)->Prop
 | [],p=>p ()
 | s::l,p=>ZM s fun x=>Yq l fun y=>p (x,y)
theorem Yq.all:∀ {ss:List xW} {p:N3 ss->Prop},Yq ss p->∀ h,p h
 | [],_,h,_=>h
 | s::l,p,h,(x,y)=>Yq.all (ss:=l) (p:=fun y=>p (x,y)) (ZM.all (s:=s) h x) y
def Xs:(ss:List (List (Option VT)))->(O4 ss->Prop)->Prop
 | [],p=>p ()
 | s::l,p=>NQ s fun x=>Xs l fun y=>p (x,y)
theorem Xs.all:∀ {ss:List (List (Option VT))} {p:O4 ss->Prop},Xs ss p->∀ h,p h
 | [],_,h,_=>h
 | s::l,p,h,(x,y)=>Xs.all (ss:=l) (p:=fun y=>p (x,y)) (NQ.all (ts:=s) h x) y
abbrev lf (id i:Nat) (ts:List VT) (F:Nat->(Ex->St->Option R)->Cu ts (Option R)):LF R:=⟨id,i,ts,fun m h K=>apH ts (F m K) h⟩
structure FD (R:Type) where
 f:FuncId
 g:uw
 as:List xW
 vs:List (List (Option VT))
 G:N3 as->O4 vs->(CR->Option R)->Option R
abbrev fd (f:FuncId) (g:uw) (as:List xW) (vs:List (List (Option VT))) (F:(CR->Option R)->CuA as (CuV vs (Option R))):FD R:=⟨f,g,as,vs,fun a v k=>apV vs (apA as (F k) a) v⟩
abbrev FD.e (d:FD R):Nat×(uw×Ac R):=(d.f,(d.g,vg d.as d.vs d.G))
structure FD.Ok (X:Ctx) (d:FD R):Prop where
 ok:CH X d.g d.f (vg d.as d.vs d.G)
 en:vU X.P d.f
inductive Es (X:Ctx):List (Nat×(uw×Ac R))->Prop
 | n:Es X []
 | c {d:FD R} {l} (h:d.Ok X) (t:Es X l):Es X (d.e::l)
theorem Es.all {X:Ctx} {l:List (Nat×(uw×Ac R))} (h:Es X l):∀ p∈l,CH X p.2.1 p.1 p.2.2/\vU X.P p.1:=by
 induction h with
 | n=>intro p hp; cases hp
 | c h t ih =>
  intro p hp
  rcases zI.1 hp with rfl | hp
  ·exact ⟨h.ok,h.en⟩
  ·exact ih p hp
def FL (fn:Func):Code:=fn.body.getD .skip
def ZL (fn:Func):Bool:= !(fn.name == "runtime.NumGoroutine")&&(!fn.body.isNone&&fC (um (FL fn)))
inductive Ts (X:Ctx) (E:Env R) (L:Live) (body:Code) (T:List (LF R)):List (LF R)->Prop
 | n:Ts X E L body T []
 | c' {x:LF R} {l} (h:SG X E L body T x) (t:Ts X E L body T l):Ts X E L body T (x::l)
theorem Ts.c {X:Ctx} {E:Env R} {L:Live} {body:Code} {T:List (LF R)} {x:LF R} {l:List (LF R)} (t:Ts X E L body T l) (hz:W7 x.ts fun h=>∀ K,x.F 0 h K=none:=by (repeat intro _); kernel_rfl)
  (hs:(getLoop x.id body).isSome=true:=by kernel_rfl) (hr:∀ m,W7 x.ts fun h=>∀ K,round X E L (wB T m) ((getLoop x.id body).getD .skip) x.i (OG x.ts h) K=x.F (m+1) h K:=by (repeat intro _); kernel_rfl):Ts X E L body T (x::l):=by
 refine .c' ⟨hz.all,?_⟩ t
 cases hc:getLoop x.id body with
 | none=>rw [hc] at hs; cases hs
 | some c=>rw [hc] at hr; exact ⟨c,rfl,fun m h K=>(hr m).all h K⟩
theorem Ts.all {X:Ctx} {E:Env R} {L:Live} {body:Code} {T l:List (LF R)} (h:Ts X E L body T l):∀ x∈l,SG X E L body T x:=by
 induction h with
 | n=>intro p hp; cases hp
 | c' h t ih =>
  intro p hp
  rcases zI.1 hp with rfl | hp
  ·exact h
  ·exact ih p hp
theorem FD.Ok.of (r0:R) {X:Ctx} (hX:iH X) {d:FD R} {env:List (Nat×(uw×Ac R))} (L:Live) (tab:List (LF R)) (n:Nat) {fn:Func} (hf:X.P.funcs[d.f]? =some fn) (hE:Es X env)
  (hl:Ts (X.at fn) (Ez env) L (FL fn) tab tab) (hc:ZL fn=true:=by kernel_rfl)
  (hF:Yq d.as fun a=>Xs d.vs fun v=>∀ k,Er X (Ez env) L (wB tab n) d.g fn (Ho d.as a) (Hn d.vs v) k=d.G a v k:=by (repeat intro _); kernel_rfl):d.Ok X:=by
 simp only [ZL,zB,Bool.not_eq_true'] at hc
 obtain ⟨h1,h2,h3⟩:=hc
 refine ⟨Vg r0 hX hE.all (L:=L) (tab:=tab) (body:=FL fn) n hf ?_ h3 hl.all (fun a v k=>(hF.all a).all v k),enters hf h1 h2⟩
 cases hb:fn.body with
 | none=>rw [hb] at h2; cases h2
 | some b=>simp [FL,hb]
theorem FD.Ok.zero (r0:R) {X:Ctx} {d:FD R} (hz:∀ a v k,d.G a v k=none:=by intros; kernel_rfl) {fn:Func} (hf:X.P.funcs[d.f]? =some fn) (hc:ZL fn=true:=by kernel_rfl):d.Ok X:=by
 simp only [ZL,zB,Bool.not_eq_true'] at hc
 exact ⟨Jq r0 hz,enters hf hc.1 hc.2.1⟩
theorem VB {P:Program} {l:List (Nat×List Ct)} (h:∀ p∈l,StructEq P p.1 p.2):∀ t ks,lk l t=some ks->StructEq P t ks:=fun t ks ht=>h (t,ks) (cU ht)
end Go.Soft
namespace Go.Soft
open Go
structure au where
 ab:List Bool
 bF:List Bool
structure aa where
 au:au
 ad:List aV
 ab:List Block
structure Mem where
 aa:aa
 an:List Bool
 ae:List bG
 Next:Int
structure Device where
 cA:List ByteArray
structure Fs where
 Mem:Mem
 Device:Device
structure eF where
 b:List UInt8
 i:Int
 h:Int
structure World where
 Fs:Fs
 Model:List Node
 jv:List Int
 Kept:List Node
def oI:Option VT:=some (.i .i64)
def oB:Option VT:=some .b
def oS:Option VT:=some .s
def oL (τ:Ty):Option VT:=some (.l τ)
def cI (n:Int):Ct:= .i .i64 n
def aI:xW:= .c oI
def aB:xW:= .c oB
def aS:xW:= .c oS
def aL (τ:Ty):xW:= .c (oL τ)
abbrev O7:List (Option VT):=[oS,oI]
def VD (a:CT O7):Slot:=⟨a.1,a.2.1⟩
abbrev pM:List (Option VT):=[oI,oI,oL .int]
def q8 (a:CT pM):aV:=⟨a.1,a.2.1,a.2.2.1⟩
def q9 (r:aV):List Ct:=[cI r.Kind,cI r.Links,.l .int r.ay]
abbrev mK:List (Option VT):=[oB,oL .slot,oS]
def nO (a:CT mK):Block:=⟨a.1,a.2.1,a.2.2.1⟩
def pB (r:Block):List Ct:=[.b r.cf,.l .slot r.ah,.s r.Text]
abbrev vq:List (Option VT):=[oI,oI,oI,oI,oI,oI,oS,oB,oB,oI,oL .int]
def xq (a:CT vq):bG:=⟨a.1,a.2.1,a.2.2.1,a.2.2.2.1,a.2.2.2.2.1,a.2.2.2.2.2.1,a.2.2.2.2.2.2.1,a.2.2.2.2.2.2.2.1,a.2.2.2.2.2.2.2.2.1,a.2.2.2.2.2.2.2.2.2.1,a.2.2.2.2.2.2.2.2.2.2.1⟩
def T4 (r:bG):List Ct:=[cI r.Id,cI r.Kind,cI r.Ino,cI r.Ptr,cI r.Block,cI r.Slot,.s r.Name,.b r.au,.b r.eJ,cI r.bx,.l .int r.ab]
abbrev Ar:List (Option VT):=[oI,oS,oS,oI,oS]
def E5 (a:CT Ar):Event:=⟨a.1,a.2.1,a.2.2.1,a.2.2.2.1,a.2.2.2.2.1⟩
def SU (r:Event):List Ct:=[cI r.Kind,.s r.Path,.s r.To,cI r.At,.s r.Text]
abbrev yC:List (Option VT):=[oL .bool,oL .bool]
def Cj (a:CT yC):au:=⟨a.1,a.2.1⟩
def BP (r:au):List Ct:=[.l .bool r.ab,.l .bool r.bF]
abbrev g9:List (Option VT):=[oL .bool,oL .bool,oL .inode,oL .block]
def iG (a:CT g9):aa:=⟨⟨a.1,a.2.1⟩,a.2.2.1,a.2.2.2.1⟩
def tx (r:aa):List Ct:=[.l .bool r.au.ab,.l .bool r.au.bF,.l .inode r.ad,.l .block r.ab]
abbrev sF:List (Option VT):=[oL .str]
def xe (a:CT sF):Device:=⟨a.1⟩
def GB (r:Device):List Ct:=[.l .str r.cA]
abbrev dF:List (Option VT):=[oL .bool,oL .bool,oL .inode,oL .block,oL .bool,oL .dep,oI]
def dM (a:CT dF):Mem:=⟨⟨⟨a.1,a.2.1⟩,a.2.2.1,a.2.2.2.1⟩,a.2.2.2.2.1,a.2.2.2.2.2.1,a.2.2.2.2.2.2.1⟩
def gq (r:Mem):List Ct:=[.l .bool r.aa.au.ab,.l .bool r.aa.au.bF,.l .inode r.aa.ad,.l .block r.aa.ab,.l .bool r.an,.l .dep r.ae,cI r.Next]
abbrev PL:List (Option VT):=[oL .bool,oL .bool,oL .inode,oL .block,oL .bool,oL .dep,oI,oL .str]
def SN (a:CT PL):Fs:=⟨⟨⟨⟨a.1,a.2.1⟩,a.2.2.1,a.2.2.2.1⟩,a.2.2.2.2.1,a.2.2.2.2.2.1,a.2.2.2.2.2.2.1⟩,⟨a.2.2.2.2.2.2.2.1⟩⟩
def L0 (r:Fs):List Ct:=[.l .bool r.Mem.aa.au.ab,.l .bool r.Mem.aa.au.bF,.l .inode r.Mem.aa.ad,.l .block r.Mem.aa.ab,.l .bool r.Mem.an,.l .dep r.Mem.ae,cI r.Mem.Next,.l .str r.Device.cA]
abbrev k8:List (Option VT):=[oL .byte,oI,oI]
def lG (a:CT k8):eF:=⟨a.1,a.2.1,a.2.2.1⟩
def lx (r:eF):List Ct:=[.l .byte r.b,cI r.i,cI r.h]
abbrev Fe:List (Option VT):=[oL .bool,oL .bool,oL .inode,oL .block,oL .bool,oL .dep,oI,oL .str,oL .node,oL .int,oL .node]
def KC (a:CT Fe):World:=⟨⟨⟨⟨⟨a.1,a.2.1⟩,a.2.2.1,a.2.2.2.1⟩,a.2.2.2.2.1,a.2.2.2.2.2.1,a.2.2.2.2.2.2.1⟩,⟨a.2.2.2.2.2.2.2.1⟩⟩,a.2.2.2.2.2.2.2.2.1,a.2.2.2.2.2.2.2.2.2.1,a.2.2.2.2.2.2.2.2.2.2.1⟩
def Sb (r:World):List Ct:=[.l .bool r.Fs.Mem.aa.au.ab,.l .bool r.Fs.Mem.aa.au.bF,.l .inode r.Fs.Mem.aa.ad,.l .block r.Fs.Mem.aa.ab,.l .bool r.Fs.Mem.an,.l .dep r.Fs.Mem.ae,cI r.Fs.Mem.Next,.l .str r.Fs.Device.cA,.l .node r.Model,.l .int r.jv,.l .node r.Kept]
def rC:List Ct->List Rc
 | []=>[]
 | x::l=> .c x::rC l
def rI (n:Int):Rc:= .c (cI n)
def rB (b:Bool):Rc:= .c (.b b)
def kt (n:Int):Bool:=decide (0<=n)&&decide (n<256)
def Bp (k:IntKind) (a b:Int):Int:=k.wrap ((BitVec.ofInt k.bits a &&& BitVec.ofInt k.bits b).toNat)
def U2 (k:IntKind) (a b:Int):Int:=k.wrap ((BitVec.ofInt k.bits a ^^^ BitVec.ofInt k.bits b).toNat)
def MK (k:IntKind) (a b:Int):Int:=a.fdiv (2 ^ (min b.toNat k.bits))
def cW (r:Nat):Cv:= .sw (500000+r)
def cN (n:Int):Cv:= .i .i64 n
def rR (r:Nat) (τ:Ty) (xs:List (El τ)) (ow:Nat):Nat×Row:=(500000+r,⟨τ,xs,ow⟩)
def hW (r:Nat):Sh:= .sw (500000+r)
def hI:Sh:= .i .i64
def hR (r:Nat) (τ:Ty) (ow:Nat):Nat×(Ty×Nat):=(500000+r,(τ,ow))
end Go.Soft
set_option maxRecDepth 100000
namespace Go.Soft
open Go
variable {R:Type}
def K7 (code:List UInt8) (k0:Bool->Option R):Option R :=
 k0 (decide (1048576<(code.length:Int)))
def jB (code:List UInt8) (q0:Int->Option R):Nat->Int->Int->Option R
 | 0,_,_=>none
 | m+1,xh,i =>
  bif (decide (i<(code.length:Int)))&&(decide (i<4000)) then
  aK (aZ i code.length) <|
  jB code q0 m (Bp .i64 (aA ((aA ((aA (xh*131))+(aA (((code.getD i.toNat 0).toNat:Int)))))+7)) 1073741823) (aA (i+1))
  else
  q0 xh
def xB (n:Nat) (code:List UInt8) (k0:eF->Option R):Option R :=
 jB code (fun xh =>
  k0 ⟨code,0,xh⟩) n (aA (37701+(code.length:Int))) 0
def mb (k0:au->Option R):Option R :=
 aK (aZ 0 ((List.replicate 8 false).length)) <|
 let row:=((List.replicate 8 false).set 0 true)
 k0 ⟨(List.replicate 16 false),row⟩
def ey (kind:Int) (k0:aV->Option R):Option R :=
 bif (kind==0) then
  k0 ⟨kind,0,(List.replicate 2 0)⟩
 else
 k0 ⟨kind,1,(List.replicate 2 0)⟩
def kf (q0:(List aV)->Option R):Nat->Int->(List aV)->Option R
 | 0,_,_=>none
 | m+1,i,ia =>
  bif (decide (i<8)) then
  ey 0 fun nj =>
  let row:=(ia++([nj]))
  aK (bg row) <|
  kf q0 m (aA (i+1)) row
  else
  q0 ia
def od (n:Nat) (k0:aa->Option R):Option R :=
 mb fun b =>
 kf (fun v =>
  ey 2 fun i =>
  aK (aZ 0 v.length) <|
  let row:=(v.set 0 i)
  k0 ⟨b,row,(List.replicate 16 aC)⟩) n 0 ([])
def sY (b:au) (k0:Bool->Option R):Option R :=
 k0 (((b.ab.length:Int)==16)&&((b.bF.length:Int)==8))
def cq (x:Int) (least:Int) (most:Int) (k0:Bool->Option R):Option R :=
 k0 ((decide (least<=x))&&(decide (x<=most)))
def jK (v:Int) (dz:List Int) (q0:Bool->Option R) (q1:Option R):Nat->Int->Option R
 | 0,_=>none
 | m+1,i =>
  bif (decide (i<2)) then
  aK (aZ i dz.length) <|
  cq (dz.getD i.toNat 0) 0 16 fun r =>
  aK (!((!(!r))&&(v==0))||(aZ i dz.length)) <|
  bif (!r)||((v==0)&&(!((dz.getD i.toNat 0)==0))) then
   q0 false
  else
  jK v dz q0 q1 m (aA (i+1))
  else
  q1
def nZ (n:Nat) (x:aV) (k0:Bool->Option R):Option R :=
 cq x.Kind 0 2 fun r =>
 cq x.Links 0 200 fun cS =>
 let z:=bif !(!r) then cS else false
 bif ((!r)||(!z))||(!((x.ay.length:Int)==2)) then
  k0 false
 else
 jK x.Kind x.ay (fun eH =>
  k0 eH) (
  k0 ((!(x.Kind==0))||(x.Links==0))) n 0
def kZ (s:ByteArray) (q0:Bool->Option R) (q1:Option R):Nat->Int->Option R
 | 0,_=>none
 | m+1,i =>
  bif (decide (i<(s.size:Int))) then
  aK (aZ i s.size) <|
  aK (!(!(decide ((bt s i.toNat:Int)<97)))||(aZ i s.size)) <|
  aK (!((decide ((bt s i.toNat:Int)<97))||(decide (122<(bt s i.toNat:Int))))||(aZ i s.size)) <|
  aK (!(((decide ((bt s i.toNat:Int)<97))||(decide (122<(bt s i.toNat:Int))))&&(!(decide ((bt s i.toNat:Int)<48))))||(aZ i s.size)) <|
  bif ((decide ((bt s i.toNat:Int)<97))||(decide (122<(bt s i.toNat:Int))))&&((decide ((bt s i.toNat:Int)<48))||(decide (57<(bt s i.toNat:Int)))) then
   q0 false
  else
  kZ s q0 q1 m (aA (i+1))
  else
  q1
def ky (n:Nat) (s:ByteArray) (k0:Bool->Option R):Option R :=
 kZ s (fun x =>
  k0 x) (
  cq (s.size:Int) 1 6 fun r =>
  k0 r) n 0
def iT (i:Int) (dz:ByteArray) (jk:List Slot) (q0:Bool->Option R) (q1:Option R):Nat->Int->Option R
 | 0,_=>none
 | m+1,xk =>
  bif (decide (xk<i)) then
  aK (aZ xk jk.length) <|
  bif (((jk.getD xk.toNat aq).Name)==dz) then
   q0 false
  else
  iT i dz jk q0 q1 m (aA (xk+1))
  else
  q1
def fL (n:Nat) (dz:List Slot) (q0:Bool->Option R) (q1:Option R):Nat->Int->Option R
 | 0,_=>none
 | m+1,i =>
  bif (decide (i<4)) then
  aK (aZ i dz.length) <|
  let el:=(dz.getD i.toNat aq)
  bif (el.Name==eS)&&(el.Ino==0) then
   fL n dz q0 q1 m (aA (i+1))
  else
  ky n el.Name fun r =>
  cq el.Ino 1 8 fun cS =>
  let z:=bif !(!r) then cS else false
  bif (!r)||(!z) then
   q0 false
  else
  iT i el.Name dz (fun x =>
   q0 x) (
   fL n dz q0 q1 m (aA (i+1))) m 0
  else
  q1
def qt (n:Nat) (b:Block) (k0:Bool->Option R):Option R :=
 bif !b.cf then
  k0 (((b.ah.length:Int)==0)&&(decide ((b.Text.size:Int)<=16)))
 else
 bif (!((b.ah.length:Int)==4))||(!(b.Text==eS)) then
  k0 false
 else
 fL n b.ah (fun x =>
  k0 x) (
  k0 true) n 0
def k6 (n:Nat) (dz:List aV) (q0:Bool->Option R) (q1:Option R):Nat->Int->Option R
 | 0,_=>none
 | m+1,i =>
  bif (decide (i<(dz.length:Int))) then
  aK (aZ i dz.length) <|
  let el:=(dz.getD i.toNat az)
  nZ n el fun r =>
  bif !r then
   q0 false
  else
  k6 n dz q0 q1 m (aA (i+1))
  else
  q1
def ie (n:Nat) (gr:List Block) (q0:Bool->Option R) (q1:Option R):Nat->Int->Option R
 | 0,_=>none
 | m+1,i =>
  bif (decide (i<(gr.length:Int))) then
  aK (aZ i gr.length) <|
  let el:=(gr.getD i.toNat aC)
  qt n el fun r =>
  bif !r then
   q0 false
  else
  ie n gr q0 q1 m (aA (i+1))
  else
  q1
def qu (n:Nat) (d:aa) (k0:Bool->Option R):Option R :=
 sY d.au fun r =>
 bif ((!r)||(!((d.ad.length:Int)==8)))||(!((d.ab.length:Int)==16)) then
  k0 false
 else
 k6 n d.ad (fun x =>
  k0 x) (
  ie n d.ab (fun eH =>
  k0 eH) (
  k0 true) n 0) n 0
def iq (list:List Bool) (q0:Int->Option R):Nat->Int->Int->Int->Option R
 | 0,_,_,_=>none
 | m+1,xn,bit,i =>
  bif (decide (i<(list.length:Int))) then
  aK (aZ i list.length) <|
  bif (list.getD i.toNat false) then
   iq list q0 m (aA (xn+bit)) (aA (2*bit)) (aA (i+1))
  else
  iq list q0 m xn (aA (2*bit)) (aA (i+1))
  else
  q0 xn
def n7 (n:Nat) (list:List Bool) (k0:Int->Option R):Option R :=
 iq list (fun xn =>
  k0 (IntKind.u8.wrap (xn))) n 0 1 0
def qJ (n:Nat) (b:au) (k0:ByteArray->Bool->Option R):Option R :=
 sY b fun r =>
 bif !r then
  k0 eS false
 else
 aK (qh 8 b.ab.length) <|
 n7 n (sub b.ab 0 8) fun cS =>
 aK (qh 8 b.ab.length) <|
 n7 n (sub b.ab 8 (b.ab.length-8)) fun dT =>
 n7 n b.bF fun lq =>
 let lit:=([(UInt8.ofNat cS.toNat),(UInt8.ofNat dT.toNat),(UInt8.ofNat lq.toNat)]:List UInt8)
 aK (kt cS&&(kt dT&&(kt lq&&true))) <|
 k0 (zm lit) true
def mR (n:Nat) (x:aV) (k0:ByteArray->Bool->Option R):Option R :=
 nZ n x fun r =>
 bif !r then
  k0 eS false
 else
 aK (aZ 0 x.ay.length) <|
 aK (aZ 1 x.ay.length) <|
 let lit:=([(UInt8.ofNat ((IntKind.u8.wrap (x.Kind)).toNat)),(UInt8.ofNat ((IntKind.u8.wrap (x.Links)).toNat)),(UInt8.ofNat ((IntKind.u8.wrap ((x.ay.getD 0 0))).toNat)),(UInt8.ofNat ((IntKind.u8.wrap ((x.ay.getD 1 0))).toNat))]:List UInt8)
 aK (kt (IntKind.u8.wrap (x.Kind))&&(kt (IntKind.u8.wrap (x.Links))&&(kt (IntKind.u8.wrap ((x.ay.getD 0 0)))&&(kt (IntKind.u8.wrap ((x.ay.getD 1 0)))&&true)))) <|
 k0 (zm lit) true
def m6 (q0:Int->(List UInt8)->Option R):Nat->Int->(List UInt8)->Option R
 | 0,_,_=>none
 | m+1,xn,out =>
  bif (decide (127<xn)) then
  aK (kt (IntKind.u8.wrap ((aA ((xn.tmod 128)+128))))&&true) <|
  let row:=(out++([(UInt8.ofNat ((IntKind.u8.wrap ((aA ((xn.tmod 128)+128)))).toNat))]))
  aK (bg row) <|
  m6 q0 m (aA (xn.tdiv 128)) row
  else
  q0 xn out
def tE (n:Nat) (xn:Int) (k0:ByteArray->Option R):Option R :=
 m6 (fun YX out =>
  aK (kt (IntKind.u8.wrap (YX))&&true) <|
  let row:=(out++([(UInt8.ofNat ((IntKind.u8.wrap (YX)).toNat))]))
  aK (bg row) <|
  k0 (zm row)) n xn ([])
def g6 (n:Nat) (dz:List Slot) (q0:ByteArray->Option R):Nat->ByteArray->Int->Option R
 | 0,_,_=>none
 | m+1,s,i =>
  bif (decide (i<4)) then
  aK (aZ i dz.length) <|
  aK (kt (IntKind.u8.wrap ((dz.getD i.toNat aq).Ino))&&true) <|
  aK (lY s (zm ([(UInt8.ofNat ((IntKind.u8.wrap ((dz.getD i.toNat aq).Ino)).toNat))]))) <|
  aK (aZ i dz.length) <|
  tE n (((dz.getD i.toNat aq).Name).size:Int) fun r =>
  aK (lY (s++(zm ([(UInt8.ofNat ((IntKind.u8.wrap ((dz.getD i.toNat aq).Ino)).toNat))]))) r) <|
  aK (aZ i dz.length) <|
  aK (lY ((s++(zm ([(UInt8.ofNat ((IntKind.u8.wrap ((dz.getD i.toNat aq).Ino)).toNat))])))++r) ((dz.getD i.toNat aq).Name)) <|
  g6 n dz q0 m (((s++(zm ([(UInt8.ofNat ((IntKind.u8.wrap ((dz.getD i.toNat aq).Ino)).toNat))])))++r)++((dz.getD i.toNat aq).Name)) (aA (i+1))
  else
  q0 s
def ig (n:Nat) (b:Block) (k0:ByteArray->Bool->Option R):Option R :=
 qt n b fun r =>
 bif !r then
  k0 eS false
 else
 bif !b.cf then
  aK (lY (S [116]) b.Text) <|
  k0 ((S [116])++b.Text) true
 else
 g6 n b.ah (fun s =>
  k0 s true) n (S [100]) 0
def qi (n:Nat) (d:aa) (u:Int) (k0:ByteArray->Option R):Option R :=
 bif (u==0) then
  qJ n d.au fun r cS =>
  k0 r
 else
 bif (decide (u<=4)) then
  aK (aZ (aA ((aA (2*u))-2)) d.ad.length) <|
  let el:=(d.ad.getD ((aA ((aA (2*u))-2)).toNat) az)
  mR n el fun dT lq =>
  aK (aZ (aA ((aA (2*u))-1)) d.ad.length) <|
  let kR:=(d.ad.getD ((aA ((aA (2*u))-1)).toNat) az)
  mR n kR fun mG uV =>
  aK (lY dT mG) <|
  k0 (dT++mG)
 else
 aK (aZ (aA (u-5)) d.ab.length) <|
 let ad0:=(d.ab.getD ((aA (u-5)).toNat) aC)
 ig n ad0 fun AH uR =>
 k0 AH
def iQ (n:Nat) (v:List Bool) (eM:List Bool) (dz:List aV) (gr:List Block) (q0:(List ByteArray)->Option R):Nat->Int->(List ByteArray)->Option R
 | 0,_,_=>none
 | m+1,u,lW =>
  bif (decide (u<21)) then
  qi n ⟨⟨v,eM⟩,dz,gr⟩ u fun r =>
  let row:=(lW++([r]))
  aK (bg row) <|
  iQ n v eM dz gr q0 m (aA (u+1)) row
  else
  q0 lW
def kN (n:Nat) (d:aa) (k0:Device->Bool->Option R):Option R :=
 qu n d fun r =>
 bif !r then
  k0 ⟨[]⟩ false
 else
 iQ n d.au.ab d.au.bF d.ad d.ab (fun v =>
  k0 ⟨v⟩ true) n 0 ([])
def uK (b:au) (k0:au->Option R):Option R :=
 let row:=(([])++b.ab)
 aK (bg row) <|
 let cg:=(([])++b.bF)
 aK (bg cg) <|
 k0 ⟨row,cg⟩
def ob (x:aV) (k0:aV->Option R):Option R :=
 let row:=(([])++x.ay)
 aK (bg row) <|
 k0 ⟨x.Kind,x.Links,row⟩
def mr (b:Block) (k0:Block->Option R):Option R :=
 let row:=(([])++b.ah)
 aK (bg row) <|
 k0 ⟨b.cf,row,b.Text⟩
def jO (dz:List aV) (q0:(List aV)->Option R):Nat->Int->(List aV)->Option R
 | 0,_,_=>none
 | m+1,i,dQ =>
  bif (decide (i<(dz.length:Int))) then
  aK (aZ i dz.length) <|
  let el:=(dz.getD i.toNat az)
  ob el fun nj =>
  let row:=(dQ++([nj]))
  aK (bg row) <|
  jO dz q0 m (aA (i+1)) row
  else
  q0 dQ
def gK (gr:List Block) (q0:(List Block)->Option R):Nat->Int->(List Block)->Option R
 | 0,_,_=>none
 | m+1,i,ph =>
  bif (decide (i<(gr.length:Int))) then
  aK (aZ i gr.length) <|
  let el:=(gr.getD i.toNat aC)
  mr el fun b =>
  let row:=(ph++([b]))
  aK (bg row) <|
  gK gr q0 m (aA (i+1)) row
  else
  q0 ph
def jU (n:Nat) (d:aa) (k0:aa->Option R):Option R :=
 uK d.au fun b =>
 jO d.ad (fun v =>
  gK d.ab (fun eM =>
  k0 ⟨b,v,eM⟩) n 0 ([])) n 0 ([])
def wK (n:Nat) (d:aa) (k0:Mem->Option R):Option R :=
 jU n d fun z7 =>
 k0 ⟨z7,(List.replicate 21 false),[],1⟩
def Av (n:Nat) (k0:Fs->Option R):Option R :=
 od n fun d =>
 kN n d fun z7 r =>
 od n fun YV =>
 wK n YV fun xm =>
 k0 ⟨xm,z7⟩
def iS (c:eF) (k0:Int->eF->Option R):Option R :=
 bif (decide (c.i<(c.b.length:Int))) then
  aK (aZ c.i c.b.length) <|
  k0 (Bp .i64 (aA ((Bp .i64 (U2 .i64 (MK .i64 (aA ((aA (c.h*6364136223846793005))+1442695040888963407)) 33) (MK .i64 (aA ((aA (c.h*6364136223846793005))+1442695040888963407)) 45)) 255)+(aA (((c.b.getD c.i.toNat 0).toNat:Int))))) 255) ⟨c.b,(aA (c.i+1)),(aA ((aA (c.h*6364136223846793005))+1442695040888963407))⟩
 else
 k0 (Bp .i64 (U2 .i64 (MK .i64 (aA ((aA (c.h*6364136223846793005))+1442695040888963407)) 33) (MK .i64 (aA ((aA (c.h*6364136223846793005))+1442695040888963407)) 45)) 255) ⟨c.b,c.i,(aA ((aA (c.h*6364136223846793005))+1442695040888963407))⟩
def aE (xn:Int) (c:eF) (k0:Int->eF->Option R):Option R :=
 bif (decide (xn<=0)) then
  k0 0 c
 else
 bif (decide (xn<=256)) then
  iS c fun r lo =>
  aK (!(xn==0)) <|
  k0 (r.tmod xn) ⟨c.b,lo.i,lo.h⟩
 else
 iS c fun cS bU =>
 iS ⟨c.b,bU.i,bU.h⟩ fun dT bR =>
 iS ⟨c.b,bR.i,bR.h⟩ fun lq ln =>
 iS ⟨c.b,ln.i,ln.h⟩ fun mG qc =>
 aK (!(xn==0)) <|
 k0 ((aA ((aA ((aA ((aA (cS*16777216))+(aA (dT*65536))))+(aA (lq*256))))+mG)).tmod xn) ⟨c.b,qc.i,qc.h⟩
def dE (list:List Int) (c:eF) (k0:Int->eF->Option R):Option R :=
 aE (list.length:Int) c fun r lo =>
 aK (aZ r list.length) <|
 k0 (list.getD r.toNat 0) ⟨c.b,lo.i,lo.h⟩
def fR (list:List ByteArray) (c:eF) (k0:ByteArray->eF->Option R):Option R :=
 aE (list.length:Int) c fun r lo =>
 aK (aZ r list.length) <|
 k0 (list.getD r.toNat eS) ⟨c.b,lo.i,lo.h⟩
def qz (c:eF) (k0:ByteArray->eF->Option R):Option R :=
 let lit:=([S [97],S [98],S [99],S [100,100],S [101,49]]:List ByteArray)
 fR lit c fun r lo =>
 k0 r ⟨c.b,lo.i,lo.h⟩
def cO (xn:Int) (c:eF) (k0:Bool->eF->Option R):Option R :=
 aE xn c fun r lo =>
 k0 (r==0) ⟨c.b,lo.i,lo.h⟩
def fI (wk:List Node) (q0:(List ByteArray)->(List ByteArray)->(List ByteArray)->Option R):Nat->Int->(List ByteArray)->(List ByteArray)->(List ByteArray)->Option R
 | 0,_,_,_,_=>none
 | m+1,i,files,dirs,all =>
  bif (decide (i<(wk.length:Int))) then
  aK (aZ i wk.length) <|
  let row:=(all++([(wk.getD i.toNat eK).Path]))
  aK (bg row) <|
  aK (aZ i wk.length) <|
  bif (wk.getD i.toNat eK).cf then
   aK (aZ i wk.length) <|
   let cg:=(dirs++([(wk.getD i.toNat eK).Path]))
   aK (bg cg) <|
   fI wk q0 m (aA (i+1)) files cg row
  else
  aK (aZ i wk.length) <|
  let fw:=(files++([(wk.getD i.toNat eK).Path]))
  aK (bg fw) <|
  fI wk q0 m (aA (i+1)) fw dirs row
  else
  q0 files dirs all
def de (sq:List Bool) (q0:(List Int)->Option R):Nat->Int->(List Int)->Option R
 | 0,_,_=>none
 | m+1,u,bK =>
  bif (decide (u<(sq.length:Int))) then
  aK (aZ u sq.length) <|
  bif (sq.getD u.toNat false) then
   let row:=(bK++([u]))
   aK (bg row) <|
   de sq q0 m (aA (u+1)) row
  else
  de sq q0 m (aA (u+1)) bK
  else
  q0 bK
def eE (n:Nat) (w:World) (c:eF) (k0:Event->eF->Option R):Option R :=
 let lit:=([1,1,1,2,2,3,3,3,4,4,5,5,6,6,6,6,6,6,6,7]:List Int)
 dE lit c fun r lo =>
 fI w.Model (fun files dirs all =>
  aE (dirs.length:Int) ⟨c.b,lo.i,lo.h⟩ fun cS bU =>
  aK (aZ cS dirs.length) <|
  aK (lY (dirs.getD cS.toNat eS) (S [47])) <|
  qz ⟨c.b,bU.i,bU.h⟩ fun dT bR =>
  aK (lY ((dirs.getD cS.toNat eS)++(S [47])) dT) <|
  bif (r==1) then
  bif (r==1) then
   k0 ⟨r,(((dirs.getD cS.toNat eS)++(S [47]))++dT),eS,0,eS⟩ ⟨c.b,bR.i,bR.h⟩
  else
  bif (r==3) then
   bif (r==3) then
   bif (decide (0<(files.length:Int))) then
    aE (files.length:Int) ⟨c.b,bR.i,bR.h⟩ fun lq ln =>
    aK (aZ lq files.length) <|
    bif (r==5) then
    k0 ⟨r,(files.getD lq.toNat eS),(((dirs.getD cS.toNat eS)++(S [47]))++dT),0,eS⟩ ⟨c.b,ln.i,ln.h⟩
    else
    let tQ:=([eS,S [120],S [104,101,108,108,111],S [48,49,50,51,52,53,54,55,56,57,97,98,99,100,101,102]]:List ByteArray)
    fR tQ ⟨c.b,ln.i,ln.h⟩ fun mG qc =>
    aE 2 ⟨c.b,qc.i,qc.h⟩ fun uV CY =>
    k0 ⟨r,(files.getD lq.toNat eS),eS,uV,mG⟩ ⟨c.b,CY.i,CY.h⟩
   else
   bif (r==5) then
    k0 ⟨r,S [47,97],(((dirs.getD cS.toNat eS)++(S [47]))++dT),0,eS⟩ ⟨c.b,bR.i,bR.h⟩
   else
   let Qe:=([eS,S [120],S [104,101,108,108,111],S [48,49,50,51,52,53,54,55,56,57,97,98,99,100,101,102]]:List ByteArray)
   fR Qe ⟨c.b,bR.i,bR.h⟩ fun AH CV =>
   aE 2 ⟨c.b,CV.i,CV.h⟩ fun uR Wn =>
   k0 ⟨r,S [47,97],eS,uR,AH⟩ ⟨c.b,Wn.i,Wn.h⟩
   else
   bif (r==4) then
   bif (decide (0<(all.length:Int))) then
    aE (all.length:Int) ⟨c.b,bR.i,bR.h⟩ fun EH Zu =>
    aK (aZ EH all.length) <|
    k0 ⟨r,(all.getD EH.toNat eS),eS,0,eS⟩ ⟨c.b,Zu.i,Zu.h⟩
   else
   k0 ⟨r,S [47,98],eS,0,eS⟩ ⟨c.b,bR.i,bR.h⟩
   else
   bif (r==6) then
   aE 21 ⟨c.b,bR.i,bR.h⟩ fun LB Tn =>
   de w.Fs.Mem.an (fun bK =>
    cO 6 ⟨c.b,Tn.i,Tn.h⟩ fun nD UM =>
    let z:=bif (decide (0<(bK.length:Int))) then nD else false
    let uW:=bif (decide (0<(bK.length:Int))) then UM.i else Tn.i
    let Ai:=bif (decide (0<(bK.length:Int))) then UM.h else Tn.h
    bif (decide (0<(bK.length:Int)))&&(!z) then
    aE (bK.length:Int) ⟨c.b,uW,Ai⟩ fun DA T8 =>
    aK (aZ DA bK.length) <|
    k0 ⟨r,eS,eS,(bK.getD DA.toNat 0),eS⟩ ⟨c.b,T8.i,T8.h⟩
    else
    k0 ⟨r,eS,eS,LB,eS⟩ ⟨c.b,uW,Ai⟩) n 0 ([])
   else
   k0 ⟨r,eS,eS,0,eS⟩ ⟨c.b,bR.i,bR.h⟩
  else
  bif (r==5) then
   bif (decide (0<(files.length:Int))) then
   aE (files.length:Int) ⟨c.b,bR.i,bR.h⟩ fun Nm LA =>
   aK (aZ Nm files.length) <|
   bif (r==5) then
    k0 ⟨r,(files.getD Nm.toNat eS),(((dirs.getD cS.toNat eS)++(S [47]))++dT),0,eS⟩ ⟨c.b,LA.i,LA.h⟩
   else
   let lit_3:=([eS,S [120],S [104,101,108,108,111],S [48,49,50,51,52,53,54,55,56,57,97,98,99,100,101,102]]:List ByteArray)
   fR lit_3 ⟨c.b,LA.i,LA.h⟩ fun Ki Ui =>
   aE 2 ⟨c.b,Ui.i,Ui.h⟩ fun Nn Uv =>
   k0 ⟨r,(files.getD Nm.toNat eS),eS,Nn,Ki⟩ ⟨c.b,Uv.i,Uv.h⟩
   else
   bif (r==5) then
   k0 ⟨r,S [47,97],(((dirs.getD cS.toNat eS)++(S [47]))++dT),0,eS⟩ ⟨c.b,bR.i,bR.h⟩
   else
   let YS:=([eS,S [120],S [104,101,108,108,111],S [48,49,50,51,52,53,54,55,56,57,97,98,99,100,101,102]]:List ByteArray)
   fR YS ⟨c.b,bR.i,bR.h⟩ fun TC Uq =>
   aE 2 ⟨c.b,Uq.i,Uq.h⟩ fun Th Up =>
   k0 ⟨r,S [47,97],eS,Th,TC⟩ ⟨c.b,Up.i,Up.h⟩
  else
  bif (r==4) then
   bif (decide (0<(all.length:Int))) then
   aE (all.length:Int) ⟨c.b,bR.i,bR.h⟩ fun Ka Ul =>
   aK (aZ Ka all.length) <|
   k0 ⟨r,(all.getD Ka.toNat eS),eS,0,eS⟩ ⟨c.b,Ul.i,Ul.h⟩
   else
   k0 ⟨r,S [47,98],eS,0,eS⟩ ⟨c.b,bR.i,bR.h⟩
  else
  bif (r==6) then
   aE 21 ⟨c.b,bR.i,bR.h⟩ fun YH LK =>
   de w.Fs.Mem.an (fun rN =>
   cO 6 ⟨c.b,LK.i,LK.h⟩ fun TH UA =>
   let Np:=bif (decide (0<(rN.length:Int))) then TH else false
   let UK:=bif (decide (0<(rN.length:Int))) then UA.i else LK.i
   let W8:=bif (decide (0<(rN.length:Int))) then UA.h else LK.h
   bif (decide (0<(rN.length:Int)))&&(!Np) then
    aE (rN.length:Int) ⟨c.b,UK,W8⟩ fun Qv UO =>
    aK (aZ Qv rN.length) <|
    k0 ⟨r,eS,eS,(rN.getD Qv.toNat 0),eS⟩ ⟨c.b,UO.i,UO.h⟩
   else
   k0 ⟨r,eS,eS,YH,eS⟩ ⟨c.b,UK,W8⟩) n 0 ([])
  else
  k0 ⟨r,eS,eS,0,eS⟩ ⟨c.b,bR.i,bR.h⟩
  else
  bif (r==2) then
  k0 ⟨r,(((dirs.getD cS.toNat eS)++(S [47]))++dT),eS,0,eS⟩ ⟨c.b,bR.i,bR.h⟩
  else
  bif (r==3) then
  bif (r==3) then
   bif (decide (0<(files.length:Int))) then
   aE (files.length:Int) ⟨c.b,bR.i,bR.h⟩ fun V0 Lx =>
   aK (aZ V0 files.length) <|
   bif (r==5) then
    k0 ⟨r,(files.getD V0.toNat eS),(((dirs.getD cS.toNat eS)++(S [47]))++dT),0,eS⟩ ⟨c.b,Lx.i,Lx.h⟩
   else
   let Yw:=([eS,S [120],S [104,101,108,108,111],S [48,49,50,51,52,53,54,55,56,57,97,98,99,100,101,102]]:List ByteArray)
   fR Yw ⟨c.b,Lx.i,Lx.h⟩ fun aei Ur =>
   aE 2 ⟨c.b,Ur.i,Ur.h⟩ fun acG US =>
   k0 ⟨r,(files.getD V0.toNat eS),eS,acG,aei⟩ ⟨c.b,US.i,US.h⟩
   else
   bif (r==5) then
   k0 ⟨r,S [47,97],(((dirs.getD cS.toNat eS)++(S [47]))++dT),0,eS⟩ ⟨c.b,bR.i,bR.h⟩
   else
   let ZD:=([eS,S [120],S [104,101,108,108,111],S [48,49,50,51,52,53,54,55,56,57,97,98,99,100,101,102]]:List ByteArray)
   fR ZD ⟨c.b,bR.i,bR.h⟩ fun ads UF =>
   aE 2 ⟨c.b,UF.i,UF.h⟩ fun aed Us =>
   k0 ⟨r,S [47,97],eS,aed,ads⟩ ⟨c.b,Us.i,Us.h⟩
  else
  bif (r==4) then
   bif (decide (0<(all.length:Int))) then
   aE (all.length:Int) ⟨c.b,bR.i,bR.h⟩ fun Zk UD =>
   aK (aZ Zk all.length) <|
   k0 ⟨r,(all.getD Zk.toNat eS),eS,0,eS⟩ ⟨c.b,UD.i,UD.h⟩
   else
   k0 ⟨r,S [47,98],eS,0,eS⟩ ⟨c.b,bR.i,bR.h⟩
  else
  bif (r==6) then
   aE 21 ⟨c.b,bR.i,bR.h⟩ fun acO LP =>
   de w.Fs.Mem.an (fun rO =>
   cO 6 ⟨c.b,LP.i,LP.h⟩ fun aeg UH =>
   let Z1:=bif (decide (0<(rO.length:Int))) then aeg else false
   let Zl:=bif (decide (0<(rO.length:Int))) then UH.i else LP.i
   let Wo:=bif (decide (0<(rO.length:Int))) then UH.h else LP.h
   bif (decide (0<(rO.length:Int)))&&(!Z1) then
    aE (rO.length:Int) ⟨c.b,Zl,Wo⟩ fun ZB Ud =>
    aK (aZ ZB rO.length) <|
    k0 ⟨r,eS,eS,(rO.getD ZB.toNat 0),eS⟩ ⟨c.b,Ud.i,Ud.h⟩
   else
   k0 ⟨r,eS,eS,acO,eS⟩ ⟨c.b,Zl,Wo⟩) n 0 ([])
  else
  k0 ⟨r,eS,eS,0,eS⟩ ⟨c.b,bR.i,bR.h⟩
  else
  bif (r==5) then
  bif (decide (0<(files.length:Int))) then
   aE (files.length:Int) ⟨c.b,bR.i,bR.h⟩ fun WC LO =>
   aK (aZ WC files.length) <|
   bif (r==5) then
   k0 ⟨r,(files.getD WC.toNat eS),(((dirs.getD cS.toNat eS)++(S [47]))++dT),0,eS⟩ ⟨c.b,LO.i,LO.h⟩
   else
   let Zv:=([eS,S [120],S [104,101,108,108,111],S [48,49,50,51,52,53,54,55,56,57,97,98,99,100,101,102]]:List ByteArray)
   fR Zv ⟨c.b,LO.i,LO.h⟩ fun aem Un =>
   aE 2 ⟨c.b,Un.i,Un.h⟩ fun aeb Uc =>
   k0 ⟨r,(files.getD WC.toNat eS),eS,aeb,aem⟩ ⟨c.b,Uc.i,Uc.h⟩
  else
  bif (r==5) then
   k0 ⟨r,S [47,97],(((dirs.getD cS.toNat eS)++(S [47]))++dT),0,eS⟩ ⟨c.b,bR.i,bR.h⟩
  else
  let Zo:=([eS,S [120],S [104,101,108,108,111],S [48,49,50,51,52,53,54,55,56,57,97,98,99,100,101,102]]:List ByteArray)
  fR Zo ⟨c.b,bR.i,bR.h⟩ fun adm Ux =>
  aE 2 ⟨c.b,Ux.i,Ux.h⟩ fun adf UQ =>
  k0 ⟨r,S [47,97],eS,adf,adm⟩ ⟨c.b,UQ.i,UQ.h⟩
  else
  bif (r==4) then
  bif (decide (0<(all.length:Int))) then
   aE (all.length:Int) ⟨c.b,bR.i,bR.h⟩ fun Zj T6 =>
   aK (aZ Zj all.length) <|
   k0 ⟨r,(all.getD Zj.toNat eS),eS,0,eS⟩ ⟨c.b,T6.i,T6.h⟩
  else
  k0 ⟨r,S [47,98],eS,0,eS⟩ ⟨c.b,bR.i,bR.h⟩
  else
  bif (r==6) then
  aE 21 ⟨c.b,bR.i,bR.h⟩ fun adn LD =>
  de w.Fs.Mem.an (fun rQ =>
   cO 6 ⟨c.b,LD.i,LD.h⟩ fun adp Ut =>
   let Yy:=bif (decide (0<(rQ.length:Int))) then adp else false
   let ZI:=bif (decide (0<(rQ.length:Int))) then Ut.i else LD.i
   let YU:=bif (decide (0<(rQ.length:Int))) then Ut.h else LD.h
   bif (decide (0<(rQ.length:Int)))&&(!Yy) then
   aE (rQ.length:Int) ⟨c.b,ZI,YU⟩ fun YW UP =>
   aK (aZ YW rQ.length) <|
   k0 ⟨r,eS,eS,(rQ.getD YW.toNat 0),eS⟩ ⟨c.b,UP.i,UP.h⟩
   else
   k0 ⟨r,eS,eS,adn,eS⟩ ⟨c.b,ZI,YU⟩) n 0 ([])
  else
  k0 ⟨r,eS,eS,0,eS⟩ ⟨c.b,bR.i,bR.h⟩) n 0 ([]) ([eS]) ([])
def jY (C4:List bG) (q0:(List bG)->Option R):Nat->Int->(List bG)->Option R
 | 0,_,_=>none
 | m+1,i,Zz =>
  bif (decide (i<(C4.length:Int))) then
  aK (aZ i C4.length) <|
  let el:=(C4.getD i.toNat aJ)
  let row:=(([])++((C4.getD i.toNat aJ).ab))
  aK (bg row) <|
  let cg:=(Zz++([⟨el.Id,el.Kind,el.Ino,el.Ptr,el.Block,el.Slot,el.Name,el.au,el.eJ,el.bx,row⟩]))
  aK (bg cg) <|
  jY C4 q0 m (aA (i+1)) cg
  else
  q0 Zz
def dB (n:Nat) (xm:Mem) (k0:Mem->Option R):Option R :=
 jU n xm.aa fun d =>
 let row:=(([])++xm.an)
 aK (bg row) <|
 jY xm.ae (fun v =>
  k0 ⟨d,row,v,xm.Next⟩) n 0 ([])
def gf (n:Nat) (p:ByteArray) (q0:Bool->(List ByteArray)->Option R) (q1:(List ByteArray)->Option R):Nat->Int->Int->(List ByteArray)->Option R
 | 0,_,_,_=>none
 | m+1,begin,i,out =>
  bif (decide (i<=(p.size:Int))) then
  aK (!(decide (i<(p.size:Int)))||(aZ i p.size)) <|
  bif (decide (i<(p.size:Int)))&&(!((bt p i.toNat:Int)==47)) then
   gf n p q0 q1 m begin (aA (i+1)) out
  else
  aK (km begin i p.size) <|
  ky n (p.extract begin.toNat i.toNat) fun r =>
  bif !r then
   q0 false ([])
  else
  aK (km begin i p.size) <|
  let row:=(out++([(p.extract begin.toNat i.toNat)]))
  aK (bg row) <|
  gf n p q0 q1 m (aA (i+1)) (aA (i+1)) row
  else
  q1 out
def jq (n:Nat) (p:ByteArray) (k0:(List ByteArray)->Bool->Option R):Option R :=
 aK (!(!((p.size:Int)==0))||(aZ 0 p.size)) <|
 bif ((p.size:Int)==0)||(!((bt p 0:Int)==47)) then
  k0 ([]) false
 else
 bif (p==(S [47])) then
  k0 ([]) true
 else
 gf n p (fun x eH =>
  k0 eH x) (fun out =>
  bif (decide (4<(out.length:Int))) then
  k0 ([]) false
  else
  k0 out true) n 1 1 ([])
def iL (list:List ByteArray) (q0:ByteArray->Option R):Nat->ByteArray->Int->Option R
 | 0,_,_=>none
 | m+1,s,i =>
  bif (decide ((aA (i+1))<(list.length:Int))) then
  aK (lY s (S [47])) <|
  aK (aZ i list.length) <|
  aK (lY (s++(S [47])) (list.getD i.toNat eS)) <|
  iL list q0 m ((s++(S [47]))++(list.getD i.toNat eS)) (aA (i+1))
  else
  q0 s
def kP (n:Nat) (p:ByteArray) (k0:ByteArray->ByteArray->Bool->Option R):Option R :=
 jq n p fun r cS =>
 bif (!cS)||((r.length:Int)==0) then
  k0 eS eS false
 else
 iL r (fun s =>
  bif (s==eS) then
  aK (aZ (aA ((r.length:Int)-1)) r.length) <|
  k0 (S [47]) (r.getD ((aA ((r.length:Int)-1)).toNat) eS) true
  else
  aK (aZ (aA ((r.length:Int)-1)) r.length) <|
  k0 s (r.getD ((aA ((r.length:Int)-1)).toNat) eS) true) n eS 0
def k9 (Ia:List Int) (q0:Bool->Option R) (q1:Option R):Nat->Int->Option R
 | 0,_=>none
 | m+1,xk =>
  bif (decide (xk<(Ia.length:Int))) then
  aK (aZ xk Ia.length) <|
  cq (Ia.getD xk.toNat 0) 1 16 fun r =>
  bif !r then
   q0 false
  else
  k9 Ia q0 q1 m (aA (xk+1))
  else
  q1
def fH (i:Int) (eM:Int) (Kg:List bG) (q0:Bool->Option R) (q1:Option R):Nat->Int->Option R
 | 0,_=>none
 | m+1,xk =>
  bif (decide (xk<i)) then
  aK (aZ xk Kg.length) <|
  bif (((Kg.getD xk.toNat aJ).Id)==eM) then
   q0 false
  else
  fH i eM Kg q0 q1 m (aA (xk+1))
  else
  q1
def wC (n:Nat) (xm:Mem) (i:Int) (k0:Bool->Option R):Option R :=
 aK (aZ i xm.ae.length) <|
 let el:=(xm.ae.getD i.toNat aJ)
 cq el.Id 1 (aA (xm.Next-1)) fun r =>
 cq el.Kind 1 6 fun cS =>
 let z:=bif !(!r) then cS else false
 cq el.Ino 1 8 fun dT =>
 let uW:=bif !((!r)||(!z)) then dT else false
 cq el.Ptr 0 1 fun lq =>
 let Ai:=bif !(((!r)||(!z))||(!uW)) then lq else false
 cq el.Block 0 16 fun mG =>
 let Np:=bif !((((!r)||(!z))||(!uW))||(!Ai)) then mG else false
 cq el.Slot 0 3 fun uV =>
 let UK:=bif !(((((!r)||(!z))||(!uW))||(!Ai))||(!Np)) then uV else false
 cq el.bx 0 (aA (xm.Next-1)) fun AH =>
 let W8:=bif !((((((!r)||(!z))||(!uW))||(!Ai))||(!Np))||(!UK)) then AH else false
 bif ((((((!r)||(!z))||(!uW))||(!Ai))||(!Np))||(!UK))||(!W8) then
  k0 false
 else
 let v:=(xm.ae.getD i.toNat aJ).ab
 k9 v (fun x =>
  k0 x) (
  fH i el.Id xm.ae (fun eH =>
  k0 eH) (
  bif (el.Kind==1) then
   bif (el.Kind==1) then
   aK (!(decide (0<el.Block))||(aZ (aA (el.Ino-1)) xm.aa.ad.length)) <|
   aK (!(decide (0<el.Block))||(aZ el.Ptr (((xm.aa.ad.getD ((aA (el.Ino-1)).toNat) az).ay).length))) <|
   k0 ((decide (0<el.Block))&&((((xm.aa.ad.getD ((aA (el.Ino-1)).toNat) az).ay).getD el.Ptr.toNat 0)==el.Block))
   else
   bif (el.Kind==2) then
   bif (el.Kind==2) then
    aK (!(decide (0<el.Block))||(aZ (aA (el.Block-1)) xm.aa.ab.length)) <|
    aK (!((decide (0<el.Block))&&((xm.aa.ab.getD ((aA (el.Block-1)).toNat) aC).cf))||(aZ (aA (el.Block-1)) xm.aa.ab.length)) <|
    aK (!((decide (0<el.Block))&&((xm.aa.ab.getD ((aA (el.Block-1)).toNat) aC).cf))||(aZ el.Slot (((xm.aa.ab.getD ((aA (el.Block-1)).toNat) aC).ah).length))) <|
    k0 (((decide (0<el.Block))&&((xm.aa.ab.getD ((aA (el.Block-1)).toNat) aC).cf))&&(((((xm.aa.ab.getD ((aA (el.Block-1)).toNat) aC).ah).getD el.Slot.toNat aq).Ino)==el.Ino))
   else
   bif (el.Kind==4) then
    aK (!(decide (0<el.Block))||(aZ (aA (el.Block-1)) xm.aa.ab.length)) <|
    ky n el.Name fun uR =>
    let Z1:=bif (decide (0<el.Block))&&((xm.aa.ab.getD ((aA (el.Block-1)).toNat) aC).cf) then uR else false
    k0 (((decide (0<el.Block))&&((xm.aa.ab.getD ((aA (el.Block-1)).toNat) aC).cf))&&Z1)
   else
   k0 true
   else
   bif (el.Kind==3) then
   aK (!(decide (0<el.Block))||(aZ (aA (el.Block-1)) xm.aa.ab.length)) <|
   aK (!((decide (0<el.Block))&&((xm.aa.ab.getD ((aA (el.Block-1)).toNat) aC).cf))||(aZ (aA (el.Block-1)) xm.aa.ab.length)) <|
   aK (!((decide (0<el.Block))&&((xm.aa.ab.getD ((aA (el.Block-1)).toNat) aC).cf))||(aZ el.Slot (((xm.aa.ab.getD ((aA (el.Block-1)).toNat) aC).ah).length))) <|
   k0 (((decide (0<el.Block))&&((xm.aa.ab.getD ((aA (el.Block-1)).toNat) aC).cf))&&(((((xm.aa.ab.getD ((aA (el.Block-1)).toNat) aC).ah).getD el.Slot.toNat aq).Ino)==el.Ino))
   else
   bif (el.Kind==4) then
   aK (!(decide (0<el.Block))||(aZ (aA (el.Block-1)) xm.aa.ab.length)) <|
   ky n el.Name fun EH =>
   let Zl:=bif (decide (0<el.Block))&&((xm.aa.ab.getD ((aA (el.Block-1)).toNat) aC).cf) then EH else false
   k0 (((decide (0<el.Block))&&((xm.aa.ab.getD ((aA (el.Block-1)).toNat) aC).cf))&&Zl)
   else
   k0 true
  else
  bif (el.Kind==6) then
   aK (!(decide (0<el.Block))||(aZ (aA (el.Ino-1)) xm.aa.ad.length)) <|
   aK (!(decide (0<el.Block))||(aZ el.Ptr (((xm.aa.ad.getD ((aA (el.Ino-1)).toNat) az).ay).length))) <|
   k0 ((decide (0<el.Block))&&((((xm.aa.ad.getD ((aA (el.Ino-1)).toNat) az).ay).getD el.Ptr.toNat 0)==el.Block))
  else
  bif (el.Kind==2) then
   bif (el.Kind==2) then
   aK (!(decide (0<el.Block))||(aZ (aA (el.Block-1)) xm.aa.ab.length)) <|
   aK (!((decide (0<el.Block))&&((xm.aa.ab.getD ((aA (el.Block-1)).toNat) aC).cf))||(aZ (aA (el.Block-1)) xm.aa.ab.length)) <|
   aK (!((decide (0<el.Block))&&((xm.aa.ab.getD ((aA (el.Block-1)).toNat) aC).cf))||(aZ el.Slot (((xm.aa.ab.getD ((aA (el.Block-1)).toNat) aC).ah).length))) <|
   k0 (((decide (0<el.Block))&&((xm.aa.ab.getD ((aA (el.Block-1)).toNat) aC).cf))&&(((((xm.aa.ab.getD ((aA (el.Block-1)).toNat) aC).ah).getD el.Slot.toNat aq).Ino)==el.Ino))
   else
   bif (el.Kind==4) then
   aK (!(decide (0<el.Block))||(aZ (aA (el.Block-1)) xm.aa.ab.length)) <|
   ky n el.Name fun LB =>
   let Wo:=bif (decide (0<el.Block))&&((xm.aa.ab.getD ((aA (el.Block-1)).toNat) aC).cf) then LB else false
   k0 (((decide (0<el.Block))&&((xm.aa.ab.getD ((aA (el.Block-1)).toNat) aC).cf))&&Wo)
   else
   k0 true
  else
  bif (el.Kind==3) then
   aK (!(decide (0<el.Block))||(aZ (aA (el.Block-1)) xm.aa.ab.length)) <|
   aK (!((decide (0<el.Block))&&((xm.aa.ab.getD ((aA (el.Block-1)).toNat) aC).cf))||(aZ (aA (el.Block-1)) xm.aa.ab.length)) <|
   aK (!((decide (0<el.Block))&&((xm.aa.ab.getD ((aA (el.Block-1)).toNat) aC).cf))||(aZ el.Slot (((xm.aa.ab.getD ((aA (el.Block-1)).toNat) aC).ah).length))) <|
   k0 (((decide (0<el.Block))&&((xm.aa.ab.getD ((aA (el.Block-1)).toNat) aC).cf))&&(((((xm.aa.ab.getD ((aA (el.Block-1)).toNat) aC).ah).getD el.Slot.toNat aq).Ino)==el.Ino))
  else
  bif (el.Kind==4) then
   aK (!(decide (0<el.Block))||(aZ (aA (el.Block-1)) xm.aa.ab.length)) <|
   ky n el.Name fun nD =>
   let Yy:=bif (decide (0<el.Block))&&((xm.aa.ab.getD ((aA (el.Block-1)).toNat) aC).cf) then nD else false
   k0 (((decide (0<el.Block))&&((xm.aa.ab.getD ((aA (el.Block-1)).toNat) aC).cf))&&Yy)
  else
  k0 true) n 0) n 0
def mD (n:Nat) (v:Int) (eM:List Bool) (dz:List Bool) (gr:List aV) (jk:List Block) (lW:List Bool) (ia:List bG) (q0:Bool->Option R) (q1:Option R):Nat->Int->Option R
 | 0,_=>none
 | m+1,i =>
  bif (decide (i<(ia.length:Int))) then
  wC n ⟨⟨⟨eM,dz⟩,gr,jk⟩,lW,ia,v⟩ i fun r =>
  bif !r then
   q0 false
  else
  mD n v eM dz gr jk lW ia q0 q1 m (aA (i+1))
  else
  q1
def lL (n:Nat) (xm:Mem) (k0:Bool->Option R):Option R :=
 qu n xm.aa fun r =>
 cq xm.Next 1 100000 fun cS =>
 let z:=bif !(((!r)||(!((xm.an.length:Int)==21)))||(decide (40<(xm.ae.length:Int)))) then cS else false
 bif (((!r)||(!((xm.an.length:Int)==21)))||(decide (40<(xm.ae.length:Int))))||(!z) then
  k0 false
 else
 mD n xm.Next xm.aa.au.ab xm.aa.au.bF xm.aa.ad xm.aa.ab xm.an xm.ae (fun x =>
  k0 x) (
  k0 true) n 0
def oy (d:aa) (p:Int) (k0:Block->Bool->Option R):Option R :=
 cq p 1 (d.ab.length:Int) fun r =>
 bif !r then
  k0 ⟨false,[],eS⟩ false
 else
 aK (aZ (aA (p-1)) d.ab.length) <|
 let el:=(d.ab.getD ((aA (p-1)).toNat) aC)
 k0 el true
def kW (name:ByteArray) (dz:List Slot) (q0:Int->Option R) (q1:Option R):Nat->Int->Option R
 | 0,_=>none
 | m+1,i =>
  bif (decide (i<(dz.length:Int))) then
  aK (!(!(name==eS))||(aZ i dz.length)) <|
  bif (!(name==eS))&&(((dz.getD i.toNat aq).Name)==name) then
   q0 i
  else
  kW name dz q0 q1 m (aA (i+1))
  else
  q1
def qm (n:Nat) (b:Block) (name:ByteArray) (k0:Int->Option R):Option R :=
 kW name b.ah (fun x =>
  k0 x) (
  k0 (-1)) n 0
def jZ (n:Nat) (name:ByteArray) (dz:List Bool) (gr:List Bool) (jk:List aV) (lW:List Block) (ia:List Int) (q0:Int->Int->Int->Option R) (q1:Option R):Nat->Int->Option R
 | 0,_=>none
 | m+1,xk =>
  bif (decide (xk<(ia.length:Int))) then
  aK (aZ xk ia.length) <|
  oy ⟨⟨dz,gr⟩,jk,lW⟩ (ia.getD xk.toNat 0) fun b r =>
  qm n b name fun cS =>
  bif (r&&b.cf)&&(decide (0<=cS)) then
   aK (aZ xk ia.length) <|
   aK (aZ cS b.ah.length) <|
   q0 (ia.getD xk.toNat 0) cS ((b.ah.getD cS.toNat aq).Ino)
  else
  jZ n name dz gr jk lW ia q0 q1 m (aA (xk+1))
  else
  q1
def mf (n:Nat) (d:aa) (i:Int) (name:ByteArray) (k0:Int->Int->Int->Option R):Option R :=
 cq i 1 (d.ad.length:Int) fun r =>
 aK (!(!(!r))||(aZ (aA (i-1)) d.ad.length)) <|
 bif (!r)||(!(((d.ad.getD ((aA (i-1)).toNat) az).Kind)==2)) then
  k0 0 0 0
 else
 aK (aZ (aA (i-1)) d.ad.length) <|
 let el:=(d.ad.getD ((aA (i-1)).toNat) az)
 jZ n name d.au.ab d.au.bF d.ad d.ab ((d.ad.getD ((aA (i-1)).toNat) az).ay) (fun x eH qf =>
  k0 x eH qf) (
  k0 0 0 0) n 0
def iM (n:Nat) (list:List ByteArray) (v:List Bool) (eM:List Bool) (dz:List aV) (gr:List Block) (q0:Int->Option R) (q1:Int->Option R):Nat->Int->Int->Option R
 | 0,_,_=>none
 | m+1,i,xk =>
  bif (decide (xk<(list.length:Int))) then
  aK (aZ xk list.length) <|
  mf n ⟨⟨v,eM⟩,dz,gr⟩ i (list.getD xk.toNat eS) fun r cS dT =>
  cq dT 1 (dz.length:Int) fun lq =>
  bif !lq then
   q0 0
  else
  iM n list v eM dz gr q0 q1 m dT (aA (xk+1))
  else
  q1 i
def gT (n:Nat) (d:aa) (p:ByteArray) (k0:Int->Option R):Option R :=
 jq n p fun r cS =>
 bif !cS then
  k0 0
 else
 iM n r d.au.ab d.au.bF d.ad d.ab (fun x =>
  k0 x) (fun i =>
  k0 i) n 1 0
def k7 (x:Int) (list:List Int) (q0:Bool->Option R) (q1:Option R):Nat->Int->Option R
 | 0,_=>none
 | m+1,i =>
  bif (decide (i<(list.length:Int))) then
  aK (aZ i list.length) <|
  bif ((list.getD i.toNat 0)==x) then
   q0 true
  else
  k7 x list q0 q1 m (aA (i+1))
  else
  q1
def s7 (n:Nat) (list:List Int) (x:Int) (k0:Bool->Option R):Option R :=
 k7 x list (fun eH =>
  k0 eH) (
  k0 false) n 0
def iV (n:Nat) (dir:Int) (name:ByteArray) (gr:List aV) (ia:List bG) (q0:Bool->Option R) (q1:Option R):Nat->Int->Option R
 | 0,_=>none
 | m+1,xk =>
  bif (decide (xk<(ia.length:Int))) then
  aK (aZ xk ia.length) <|
  let el:=(ia.getD xk.toNat aJ)
  aK (!(((el.Kind==4)&&(decide (0<el.bx)))&&(el.Name==name))||(aZ (aA (dir-1)) gr.length)) <|
  s7 n ((gr.getD ((aA (dir-1)).toNat) az).ay) el.Block fun r =>
  let z:=bif ((el.Kind==4)&&(decide (0<el.bx)))&&(el.Name==name) then r else false
  bif (((el.Kind==4)&&(decide (0<el.bx)))&&(el.Name==name))&&z then
   q0 true
  else
  iV n dir name gr ia q0 q1 m (aA (xk+1))
  else
  q1
def qF (n:Nat) (xm:Mem) (dir:Int) (name:ByteArray) (k0:Bool->Option R):Option R :=
 iV n dir name xm.aa.ad xm.ae (fun x =>
  k0 x) (
  k0 false) n 0
def g7 (list:List Bool) (q0:Int->Option R) (q1:Option R):Nat->Int->Option R
 | 0,_=>none
 | m+1,i =>
  bif (decide (i<(list.length:Int))) then
  aK (aZ i list.length) <|
  bif !(list.getD i.toNat false) then
   q0 (aA (i+1))
  else
  g7 list q0 q1 m (aA (i+1))
  else
  q1
def pA (n:Nat) (list:List Bool) (k0:Int->Option R):Option R :=
 g7 list (fun x =>
  k0 x) (
  k0 0) n 0
def ca (u:Int) (xm:Mem) (k0:Mem->Option R):Option R :=
 bif (decide (0<=u))&&(decide (u<(xm.an.length:Int))) then
  aK (aZ u xm.an.length) <|
  let row:=(xm.an.set u.toNat true)
  k0 ⟨xm.aa,row,xm.ae,xm.Next⟩
 else
 k0 xm
def uA (n:Nat) (xm:Mem) (k0:Mem->Int->Option R):Option R :=
 dB n xm fun aR =>
 pA n xm.aa.au.bF fun r =>
 bif (r==0) then
  k0 aR 0
 else
 aK (aZ (aA (r-1)) aR.aa.au.bF.length) <|
 let row:=(aR.aa.au.bF.set ((aA (r-1)).toNat) true)
 ca 0 ⟨⟨⟨aR.aa.au.ab,row⟩,aR.aa.ad,aR.aa.ab⟩,aR.an,aR.ae,aR.Next⟩ fun mo =>
 k0 ⟨⟨⟨aR.aa.au.ab,row⟩,aR.aa.ad,aR.aa.ab⟩,mo.an,aR.ae,mo.Next⟩ r
def jH (xm:Mem) (k0:Bool->Mem->Option R):Option R :=
 k0 ((decide ((xm.ae.length:Int)<=32))&&(decide (xm.Next<=99000))) xm
def dO (i:Int) (k0:Int->Option R):Option R :=
 cq i 1 8 fun r =>
 bif !r then
  k0 (-1)
 else
 k0 (aA (1+(aA ((aA (i-1)).tdiv 2))))
def ti (d:aa) (p:Int) (k0:Block->Bool->Option R) (k1:Block->Nat->Bool->Option R):Option R :=
 cq p 1 (d.ab.length:Int) fun r =>
 bif !r then
  k0 ⟨false,[],eS⟩ false
 else
 aK (aZ (aA (p-1)) d.ab.length) <|
 let el:=(d.ab.getD ((aA (p-1)).toNat) aC)
 k1 ⟨el.cf,[],el.Text⟩ ((aA (p-1)).toNat) true
def yN (d:bG) (k0:Bool->Option R):Option R :=
 k0 (((d.Kind==2)||(d.Kind==3))||(d.Kind==4))
def l8 (block:Int) (slot:Int) (ia:List bG) (q0:Int->Option R) (q1:Option R):Nat->Int->Option R
 | 0,_=>none
 | m+1,i =>
  bif (decide (i<(ia.length:Int))) then
  aK (aZ i ia.length) <|
  let el:=(ia.getD i.toNat aJ)
  yN el fun r =>
  bif (r&&(el.Block==block))&&(el.Slot==slot) then
   q0 el.Id
  else
  l8 block slot ia q0 q1 m (aA (i+1))
  else
  q1
def tV (n:Nat) (xm:Mem) (block:Int) (slot:Int) (k0:Int->Option R):Option R :=
 l8 block slot xm.ae (fun x =>
  k0 x) (
  k0 0) n 0
def mT (n:Nat) (xm:Mem) (k0:Mem->Int->Option R):Option R :=
 dB n xm fun aR =>
 pA n xm.aa.au.ab fun r =>
 bif (r==0) then
  k0 aR 0
 else
 aK (aZ (aA (r-1)) aR.aa.au.ab.length) <|
 let row:=(aR.aa.au.ab.set ((aA (r-1)).toNat) true)
 ca 0 ⟨⟨⟨row,aR.aa.au.bF⟩,aR.aa.ad,aR.aa.ab⟩,aR.an,aR.ae,aR.Next⟩ fun mo =>
 k0 ⟨⟨⟨row,aR.aa.au.bF⟩,aR.aa.ad,aR.aa.ab⟩,mo.an,aR.ae,mo.Next⟩ r
def sT (k0:Block->Option R):Option R :=
 k0 ⟨true,(List.replicate 4 aq),eS⟩
def bY (p:Int) (k0:Int->Option R):Option R :=
 cq p 1 16 fun r =>
 bif !r then
  k0 (-1)
 else
 k0 (aA (p+4))
def hZ (n:Nat) (xm:Mem) (d:bG) (k0:Mem->Int->Option R):Option R :=
 dB n xm fun aR =>
 cq xm.Next 1 99999 fun r =>
 let z:=bif !(decide (40<=(xm.ae.length:Int))) then r else false
 bif (decide (40<=(xm.ae.length:Int)))||(!z) then
  k0 aR 0
 else
 let row:=(([])++d.ab)
 aK (bg row) <|
 let cg:=(aR.ae++([⟨xm.Next,d.Kind,d.Ino,d.Ptr,d.Block,d.Slot,d.Name,d.au,d.eJ,d.bx,row⟩]))
 aK (bg cg) <|
 k0 ⟨aR.aa,aR.an,cg,(aA (xm.Next+1))⟩ xm.Next
def mQ (n:Nat) (xk:Int) (ok:Bool) (next:Int) (vE:Nat) (dz:Bool) (bb:List Bool) (bi:List Bool) (di:List aV) (db:List Block) (bK:List Bool) (deps:List bG) (jk:List Slot) (q0:Int->Int->Option R):Nat->Int->Int->Int->Option R
 | 0,_,_,_=>none
 | m+1,block,slot,s =>
  bif ((decide (0<=s))&&ok)&&dz then
  aK (aZ s jk.length) <|
  aK (!(((jk.getD s.toNat aq).Name)==eS)||(aZ s jk.length)) <|
  aK (!((((jk.getD s.toNat aq).Name)==eS)&&(((jk.getD s.toNat aq).Ino)==0))||(aZ xk (((di.getD vE az).ay).length))) <|
  tV n ⟨⟨⟨bb,bi⟩,di,db⟩,bK,deps,next⟩ (((di.getD vE az).ay).getD xk.toNat 0) s fun r =>
  let z:=bif (((jk.getD s.toNat aq).Name)==eS)&&(((jk.getD s.toNat aq).Ino)==0) then r else 0
  bif ((((jk.getD s.toNat aq).Name)==eS)&&(((jk.getD s.toNat aq).Ino)==0))&&(z==0) then
   aK (aZ xk (((di.getD vE az).ay).length)) <|
   mQ n xk ok next vE dz bb bi di db bK deps jk q0 m (((di.getD vE az).ay).getD xk.toNat 0) s (aA (s-1))
  else
  mQ n xk ok next vE dz bb bi di db bK deps jk q0 m block slot (aA (s-1))
  else
  q0 block slot
def fN (n:Nat) (xk:Int) (ok:Bool) (next:Int) (vE:Nat) (dz:Bool) (CN:Nat) (bb:List Bool) (bi:List Bool) (di:List aV) (db:List Block) (bK:List Bool) (deps:List bG) (q0:Int->Int->Option R):Nat->Int->Int->Int->Option R
 | 0,_,_,_=>none
 | m+1,block,slot,s =>
  bif ((decide (0<=s))&&ok)&&dz then
  aK (aZ s (((db.getD CN aC).ah).length)) <|
  aK (!(((((db.getD CN aC).ah).getD s.toNat aq).Name)==eS)||(aZ s (((db.getD CN aC).ah).length))) <|
  aK (!((((((db.getD CN aC).ah).getD s.toNat aq).Name)==eS)&&(((((db.getD CN aC).ah).getD s.toNat aq).Ino)==0))||(aZ xk (((di.getD vE az).ay).length))) <|
  tV n ⟨⟨⟨bb,bi⟩,di,db⟩,bK,deps,next⟩ (((di.getD vE az).ay).getD xk.toNat 0) s fun r =>
  let z:=bif (((((db.getD CN aC).ah).getD s.toNat aq).Name)==eS)&&(((((db.getD CN aC).ah).getD s.toNat aq).Ino)==0) then r else 0
  bif ((((((db.getD CN aC).ah).getD s.toNat aq).Name)==eS)&&(((((db.getD CN aC).ah).getD s.toNat aq).Ino)==0))&&(z==0) then
   aK (aZ xk (((di.getD vE az).ay).length)) <|
   fN n xk ok next vE dz CN bb bi di db bK deps q0 m (((di.getD vE az).ay).getD xk.toNat 0) s (aA (s-1))
  else
  fN n xk ok next vE dz CN bb bi di db bK deps q0 m block slot (aA (s-1))
  else
  q0 block slot
def ik (n:Nat) (next:Int) (vE:Nat) (bb:List Bool) (bi:List Bool) (di:List aV) (db:List Block) (bK:List Bool) (deps:List bG) (q0:Int->Int->Option R):Nat->Int->Int->Int->Option R
 | 0,_,_,_=>none
 | m+1,block,slot,xk =>
  bif (decide (0<=xk)) then
  aK (aZ xk (((di.getD vE az).ay).length)) <|
  ti ⟨⟨bb,bi⟩,di,db⟩ (((di.getD vE az).ay).getD xk.toNat 0)
   (fun b r =>
   mQ n xk r next vE b.cf bb bi di db bK deps b.ah (fun Ti V4 =>
    ik n next vE bb bi di db bK deps q0 m Ti V4 (aA (xk-1))) m block slot (aA ((b.ah.length:Int)-1)))
   (fun xT e cS =>
   fN n xk cS next vE xT.cf e bb bi di db bK deps (fun Ga J2 =>
    ik n next vE bb bi di db bK deps q0 m Ga J2 (aA (xk-1))) m block slot (aA ((((db.getD e aC).ah).length:Int)-1)))
  else
  q0 block slot
def jN (vE:Nat) (di:List aV) (q0:Int->Option R):Nat->Int->Option R
 | 0,_=>none
 | m+1,xk =>
  aK (!(decide (xk<(((di.getD vE az).ay).length:Int)))||(aZ xk (((di.getD vE az).ay).length))) <|
  bif (decide (xk<(((di.getD vE az).ay).length:Int)))&&(!((((di.getD vE az).ay).getD xk.toNat 0)==0)) then
  jN vE di q0 m (aA (xk+1))
  else
  q0 xk
def qx (n:Nat) (dir:Int) (name:ByteArray) (ino:Int) (xm:Mem) (k0:Int->Mem->Option R):Option R :=
 aK (aZ (aA (dir-1)) xm.aa.ad.length) <|
 let el:=(xm.aa.ad.getD ((aA (dir-1)).toNat) az)
 ik n xm.Next ((aA (dir-1)).toNat) xm.aa.au.ab xm.aa.au.bF xm.aa.ad xm.aa.ab xm.an xm.ae (fun block slot =>
  bif (block==0) then
  jN ((aA (dir-1)).toNat) xm.aa.ad (fun xk =>
   bif (xk==(((xm.aa.ad.getD ((aA (dir-1)).toNat) az).ay).length:Int)) then
   k0 0 xm
   else
   mT n xm fun aR r =>
   bif (r==0) then
   k0 0 xm
   else
   sT fun b =>
   aK (aZ (aA (r-1)) aR.aa.ab.length) <|
   let row:=(aR.aa.ab.set ((aA (r-1)).toNat) b)
   aK (aZ (aA (dir-1)) aR.aa.ad.length) <|
   aK (aZ xk (((aR.aa.ad.getD ((aA (dir-1)).toNat) az).ay).length)) <|
   let cg:=(aR.aa.ad.set ((aA (dir-1)).toNat) ⟨(aR.aa.ad.getD ((aA (dir-1)).toNat) az).Kind,(aR.aa.ad.getD ((aA (dir-1)).toNat) az).Links,(((aR.aa.ad.getD ((aA (dir-1)).toNat) az).ay).set xk.toNat r)⟩)
   bY r fun cS =>
   ca cS ⟨⟨aR.aa.au,cg,row⟩,aR.an,aR.ae,aR.Next⟩ fun mo =>
   dO dir fun dT =>
   ca dT ⟨⟨aR.aa.au,cg,row⟩,mo.an,aR.ae,mo.Next⟩ fun ku =>
   hZ n ⟨⟨aR.aa.au,cg,row⟩,ku.an,aR.ae,ku.Next⟩ ⟨0,1,dir,xk,r,0,eS,false,false,0,[]⟩ fun dJ lq =>
   aK (aZ (aA (r-1)) dJ.aa.ab.length) <|
   aK (aZ slot (((dJ.aa.ab.getD ((aA (r-1)).toNat) aC).ah).length)) <|
   let fw:=(dJ.aa.ab.set ((aA (r-1)).toNat) ⟨(dJ.aa.ab.getD ((aA (r-1)).toNat) aC).cf,(((dJ.aa.ab.getD ((aA (r-1)).toNat) aC).ah).set slot.toNat ⟨name,ino⟩),(dJ.aa.ab.getD ((aA (r-1)).toNat) aC).Text⟩)
   bY r fun mG =>
   ca mG ⟨⟨dJ.aa.au,dJ.aa.ad,fw⟩,dJ.an,dJ.ae,dJ.Next⟩ fun rL =>
   ca 0 ⟨⟨dJ.aa.au,dJ.aa.ad,fw⟩,rL.an,dJ.ae,rL.Next⟩ fun Gc =>
   hZ n ⟨⟨dJ.aa.au,dJ.aa.ad,fw⟩,Gc.an,dJ.ae,Gc.Next⟩ ⟨0,2,ino,0,r,slot,eS,false,false,0,[]⟩ fun pj uV =>
   k0 uV pj) n 0
  else
  aK (aZ (aA (block-1)) xm.aa.ab.length) <|
  aK (aZ slot (((xm.aa.ab.getD ((aA (block-1)).toNat) aC).ah).length)) <|
  let z8:=(xm.aa.ab.set ((aA (block-1)).toNat) ⟨(xm.aa.ab.getD ((aA (block-1)).toNat) aC).cf,(((xm.aa.ab.getD ((aA (block-1)).toNat) aC).ah).set slot.toNat ⟨name,ino⟩),(xm.aa.ab.getD ((aA (block-1)).toNat) aC).Text⟩)
  bY block fun AH =>
  ca AH ⟨⟨xm.aa.au,xm.aa.ad,z8⟩,xm.an,xm.ae,xm.Next⟩ fun Qw =>
  ca 0 ⟨⟨xm.aa.au,xm.aa.ad,z8⟩,Qw.an,xm.ae,Qw.Next⟩ fun Qk =>
  hZ n ⟨⟨xm.aa.au,xm.aa.ad,z8⟩,Qk.an,xm.ae,Qk.Next⟩ ⟨0,2,ino,0,block,slot,eS,false,false,0,[]⟩ fun uY uR =>
  k0 uR uY) n 0 0 (aA ((((xm.aa.ad.getD ((aA (dir-1)).toNat) az).ay).length:Int)-1))
def oH (n:Nat) (xm:Mem) (p:ByteArray) (kind:Int) (k0:Mem->Int->Option R):Option R :=
 dB n xm fun aR =>
 kP n p fun r cS dT =>
 lL n xm fun lq =>
 bif ((!lq)||(!dT))||((!(kind==1))&&(!(kind==2))) then
  k0 aR 6
 else
 gT n xm.aa p fun mG =>
 bif (!(mG==0)) then
  k0 aR 2
 else
 gT n xm.aa r fun uV =>
 bif (uV==0) then
  k0 aR 1
 else
 aK (aZ (aA (uV-1)) xm.aa.ad.length) <|
 bif (!(((xm.aa.ad.getD ((aA (uV-1)).toNat) az).Kind)==2)) then
  k0 aR 3
 else
 qF n xm uV cS fun AH =>
 bif AH then
  k0 aR 5
 else
 uA n xm fun dJ uR =>
 jH dJ fun EH mo =>
 let z:=bif !(uR==0) then EH else false
 let uW:=bif !(uR==0) then mo.Next else dJ.Next
 bif (uR==0)||(!z) then
  k0 aR 4
 else
 ey kind fun i =>
 aK (aZ (aA (uR-1)) dJ.aa.ad.length) <|
 let row:=(dJ.aa.ad.set ((aA (uR-1)).toNat) i)
 dO uR fun LB =>
 ca LB ⟨⟨dJ.aa.au,row,dJ.aa.ab⟩,dJ.an,dJ.ae,uW⟩ fun ku =>
 qx n uV cS uR ⟨⟨dJ.aa.au,row,dJ.aa.ab⟩,ku.an,dJ.ae,ku.Next⟩ fun nD rL =>
 bif (nD==0) then
  k0 aR 4
 else
 k0 rL 0
def pK (n:Nat) (xm:Mem) (p:ByteArray) (xk:Int) (s:ByteArray) (k0:Mem->Int->Option R):Option R :=
 dB n xm fun aR =>
 jq n p fun r cS =>
 lL n xm fun dT =>
 cq xk 0 1 fun lq =>
 let z:=bif !((!dT)||(!cS)) then lq else false
 bif (((!dT)||(!cS))||(!z))||(decide (16<(s.size:Int))) then
  k0 aR 6
 else
 gT n xm.aa p fun mG =>
 bif (mG==0) then
  k0 aR 1
 else
 aK (aZ (aA (mG-1)) xm.aa.ad.length) <|
 bif (!(((xm.aa.ad.getD ((aA (mG-1)).toNat) az).Kind)==1)) then
  k0 aR 3
 else
 dB n xm fun dJ =>
 aK (aZ (aA (mG-1)) xm.aa.ad.length) <|
 aK (aZ xk (((xm.aa.ad.getD ((aA (mG-1)).toNat) az).ay).length)) <|
 bif ((((xm.aa.ad.getD ((aA (mG-1)).toNat) az).ay).getD xk.toNat 0)==0) then
  mT n xm fun pj uV =>
  jH dJ fun AH mo =>
  let uW:=bif !(uV==0) then AH else false
  let Ai:=bif !(uV==0) then mo.Next else dJ.Next
  bif (uV==0)||(!uW) then
  k0 aR 4
  else
  aK (aZ (aA (mG-1)) pj.aa.ad.length) <|
  aK (aZ xk (((pj.aa.ad.getD ((aA (mG-1)).toNat) az).ay).length)) <|
  let row:=(pj.aa.ad.set ((aA (mG-1)).toNat) ⟨(pj.aa.ad.getD ((aA (mG-1)).toNat) az).Kind,(pj.aa.ad.getD ((aA (mG-1)).toNat) az).Links,(((pj.aa.ad.getD ((aA (mG-1)).toNat) az).ay).set xk.toNat uV)⟩)
  dO mG fun uR =>
  ca uR ⟨⟨pj.aa.au,row,pj.aa.ab⟩,pj.an,pj.ae,pj.Next⟩ fun ku =>
  hZ n ⟨⟨pj.aa.au,row,pj.aa.ab⟩,ku.an,pj.ae,ku.Next⟩ ⟨0,1,mG,xk,uV,0,eS,false,false,0,[]⟩ fun uY EH =>
  aK (aZ (aA (uV-1)) uY.aa.ab.length) <|
  let cg:=(uY.aa.ab.set ((aA (uV-1)).toNat) ⟨false,[],s⟩)
  bY uV fun LB =>
  ca LB ⟨⟨uY.aa.au,uY.aa.ad,cg⟩,uY.an,uY.ae,uY.Next⟩ fun rL =>
  k0 ⟨⟨uY.aa.au,uY.aa.ad,cg⟩,rL.an,uY.ae,rL.Next⟩ 0
 else
 aK (aZ (aA ((((xm.aa.ad.getD ((aA (mG-1)).toNat) az).ay).getD xk.toNat 0)-1)) dJ.aa.ab.length) <|
 let fw:=(dJ.aa.ab.set ((aA ((((xm.aa.ad.getD ((aA (mG-1)).toNat) az).ay).getD xk.toNat 0)-1)).toNat) ⟨false,[],s⟩)
 bY (((xm.aa.ad.getD ((aA (mG-1)).toNat) az).ay).getD xk.toNat 0) fun nD =>
 ca nD ⟨⟨dJ.aa.au,dJ.aa.ad,fw⟩,dJ.an,dJ.ae,dJ.Next⟩ fun Gc =>
 k0 ⟨⟨dJ.aa.au,dJ.aa.ad,fw⟩,Gc.an,dJ.ae,Gc.Next⟩ 0
def eU (dz:Bool) (rM:List Slot) (q0:(List ByteArray)->Option R):Nat->Int->(List ByteArray)->Option R
 | 0,_,_=>none
 | m+1,s,out =>
  bif (decide (s<(rM.length:Int)))&&dz then
  aK (aZ s rM.length) <|
  bif (!(((rM.getD s.toNat aq).Name)==eS)) then
   aK (aZ s rM.length) <|
   let row:=(out++([(rM.getD s.toNat aq).Name]))
   aK (bg row) <|
   eU dz rM q0 m (aA (s+1)) row
  else
  eU dz rM q0 m (aA (s+1)) out
  else
  q0 out
def j0 (dz:List Bool) (gr:List Bool) (jk:List aV) (lW:List Block) (ia:List Int) (q0:(List ByteArray)->Option R):Nat->Int->(List ByteArray)->Option R
 | 0,_,_=>none
 | m+1,xk,out =>
  bif (decide (xk<(ia.length:Int))) then
  aK (aZ xk ia.length) <|
  oy ⟨⟨dz,gr⟩,jk,lW⟩ (ia.getD xk.toNat 0) fun b r =>
  eU b.cf b.ah (fun CU =>
   j0 dz gr jk lW ia q0 m (aA (xk+1)) CU) m 0 out
  else
  q0 out
def uL (n:Nat) (d:aa) (i:Int) (k0:(List ByteArray)->Option R):Option R :=
 cq i 1 (d.ad.length:Int) fun r =>
 aK (!(!(!r))||(aZ (aA (i-1)) d.ad.length)) <|
 bif (!r)||(!(((d.ad.getD ((aA (i-1)).toNat) az).Kind)==2)) then
  k0 ([])
 else
 aK (aZ (aA (i-1)) d.ad.length) <|
 let el:=(d.ad.getD ((aA (i-1)).toNat) az)
 j0 d.au.ab d.au.bF d.ad d.ab ((d.ad.getD ((aA (i-1)).toNat) az).ay) (fun out =>
  k0 out) n 0 ([])
def jI (n:Nat) (i:Int) (gr:List aV) (ia:List bG) (q0:Bool->Option R) (q1:Option R):Nat->Int->Option R
 | 0,_=>none
 | m+1,xk =>
  bif (decide (xk<(ia.length:Int))) then
  aK (aZ xk ia.length) <|
  let el:=(ia.getD xk.toNat aJ)
  aK (!((el.Kind==4)&&(decide (0<el.bx)))||(aZ (aA (i-1)) gr.length)) <|
  s7 n ((gr.getD ((aA (i-1)).toNat) az).ay) el.Block fun r =>
  let z:=bif (el.Kind==4)&&(decide (0<el.bx)) then r else false
  bif ((el.Kind==4)&&(decide (0<el.bx)))&&z then
   q0 true
  else
  jI n i gr ia q0 q1 m (aA (xk+1))
  else
  q1
def xZ (n:Nat) (xm:Mem) (i:Int) (k0:Bool->Option R):Option R :=
 jI n i xm.aa.ad xm.ae (fun x =>
  k0 x) (
  k0 false) n 0
def jM (id:Int) (deps:List bG) (q0:Int->Option R) (q1:Option R):Nat->Int->Option R
 | 0,_=>none
 | m+1,xk =>
  bif (decide (xk<(deps.length:Int))) then
  aK (aZ xk deps.length) <|
  bif (((deps.getD xk.toNat aJ).Id)==id) then
   aK (aZ xk deps.length) <|
   q0 ((deps.getD xk.toNat aJ).Kind)
  else
  jM id deps q0 q1 m (aA (xk+1))
  else
  q1
def tZ (n:Nat) (id:Int) (xm:Mem) (k0:Int->Mem->Option R):Option R :=
 jM id xm.ae (fun x =>
  k0 x xm) (
  k0 0 xm) n 0
def iz (id:Int) (fV:List bG) (q0:(List bG)->Option R):Nat->Int->(List bG)->Option R
 | 0,_,_=>none
 | m+1,i,list =>
  bif (decide (i<(fV.length:Int))) then
  aK (aZ i fV.length) <|
  bif (!(((fV.getD i.toNat aJ).Id)==id)) then
   aK (aZ i fV.length) <|
   let el:=(fV.getD i.toNat aJ)
   let row:=(list++([el]))
   aK (bg row) <|
   iz id fV q0 m (aA (i+1)) row
  else
  iz id fV q0 m (aA (i+1)) list
  else
  q0 list
def kU (n:Nat) (xm:Mem) (id:Int) (k0:Mem->Option R):Option R :=
 dB n xm fun aR =>
 iz id aR.ae (fun list =>
  k0 ⟨aR.aa,aR.an,list,aR.Next⟩) n 0 ([])
def fP (id:Int) (after:Int) (bb:List Bool) (bi:List Bool) (di:List aV) (db:List Block) (q0:Int->(List Bool)->(List bG)->Option R):Nat->Int->Int->(List Bool)->(List bG)->Option R
 | 0,_,_,_,_=>none
 | m+1,xk,next,bK,deps =>
  bif (decide (xk<(deps.length:Int))) then
  aK (aZ xk deps.length) <|
  aK (!(((deps.getD xk.toNat aJ).Kind)==4)||(aZ xk deps.length)) <|
  bif (((deps.getD xk.toNat aJ).Kind)==4)&&(((deps.getD xk.toNat aJ).bx)==id) then
   aK (aZ xk deps.length) <|
   let row:=(deps.set xk.toNat ⟨(deps.getD xk.toNat aJ).Id,(deps.getD xk.toNat aJ).Kind,(deps.getD xk.toNat aJ).Ino,(deps.getD xk.toNat aJ).Ptr,(deps.getD xk.toNat aJ).Block,(deps.getD xk.toNat aJ).Slot,(deps.getD xk.toNat aJ).Name,(deps.getD xk.toNat aJ).au,(deps.getD xk.toNat aJ).eJ,after,(deps.getD xk.toNat aJ).ab⟩)
   bif (after==0) then
   aK (aZ xk row.length) <|
   bY ((row.getD xk.toNat aJ).Block) fun r =>
   ca r ⟨⟨⟨bb,bi⟩,di,db⟩,bK,row,next⟩ fun mo =>
   fP id after bb bi di db q0 m (aA (xk+1)) mo.Next mo.an row
   else
   fP id after bb bi di db q0 m (aA (xk+1)) next bK row
  else
  fP id after bb bi di db q0 m (aA (xk+1)) next bK deps
  else
  q0 next bK deps
def oA (n:Nat) (id:Int) (after:Int) (xm:Mem) (k0:Mem->Option R):Option R :=
 kU n xm id fun aR =>
 fP id after aR.aa.au.ab aR.aa.au.bF aR.aa.ad aR.aa.ab (fun next bK deps =>
  k0 ⟨aR.aa,bK,deps,next⟩) n 0 aR.Next aR.an aR.ae
def eW (i:Int) (deps:List bG) (q0:(List bG)->Option R):Nat->Int->(List bG)->Option R
 | 0,_,_=>none
 | m+1,xk,list =>
  bif (decide (xk<(deps.length:Int))) then
  aK (aZ xk deps.length) <|
  aK (!(!((!(((deps.getD xk.toNat aJ).Kind)==1))&&(!(((deps.getD xk.toNat aJ).Kind)==6))))||(aZ xk deps.length)) <|
  bif ((!(((deps.getD xk.toNat aJ).Kind)==1))&&(!(((deps.getD xk.toNat aJ).Kind)==6)))||(!(((deps.getD xk.toNat aJ).Ino)==i)) then
   aK (aZ xk deps.length) <|
   let el:=(deps.getD xk.toNat aJ)
   let row:=(list++([el]))
   aK (bg row) <|
   eW i deps q0 m (aA (xk+1)) row
  else
  eW i deps q0 m (aA (xk+1)) list
  else
  q0 list
def ea (vE:Nat) (di:List aV) (q0:(List Int)->Option R):Nat->Int->(List Int)->Option R
 | 0,_,_=>none
 | m+1,xk,blocks =>
  bif (decide (xk<(((di.getD vE az).ay).length:Int))) then
  aK (aZ xk (((di.getD vE az).ay).length)) <|
  bif (decide (0<(((di.getD vE az).ay).getD xk.toNat 0))) then
   aK (aZ xk (((di.getD vE az).ay).length)) <|
   let row:=(blocks++([(((di.getD vE az).ay).getD xk.toNat 0)]))
   aK (bg row) <|
   ea vE di q0 m (aA (xk+1)) row
  else
  ea vE di q0 m (aA (xk+1)) blocks
  else
  q0 blocks
def my (n:Nat) (i:Int) (xm:Mem) (k0:Mem->Option R):Option R :=
 cq xm.Next 1 99999 fun r =>
 let z:=bif !(decide (40<=(xm.ae.length:Int))) then r else false
 bif (decide (40<=(xm.ae.length:Int)))||(!z) then
  k0 xm
 else
 aK (aZ (aA (i-1)) xm.aa.ad.length) <|
 let el:=(xm.aa.ad.getD ((aA (i-1)).toNat) az)
 ob el fun nj =>
 dO i fun cS =>
 ca cS xm fun mo =>
 bif (decide (0<nj.Links)) then
  aK (aZ (aA (i-1)) xm.aa.ad.length) <|
  let row:=(xm.aa.ad.set ((aA (i-1)).toNat) ⟨nj.Kind,(aA (nj.Links-1)),nj.ay⟩)
  bif (decide (0<(aA (nj.Links-1))))||(nj.Kind==0) then
  k0 ⟨⟨xm.aa.au,row,xm.aa.ab⟩,mo.an,xm.ae,mo.Next⟩
  else
  eW i xm.ae (fun list =>
  ea ((aA (i-1)).toNat) row (fun blocks =>
   ey 0 fun Ns =>
   aK (aZ (aA (i-1)) row.length) <|
   let cg:=(row.set ((aA (i-1)).toNat) Ns)
   hZ n ⟨⟨xm.aa.au,cg,xm.aa.ab⟩,mo.an,list,mo.Next⟩ ⟨0,5,i,0,0,0,eS,false,false,0,blocks⟩ fun aR dT =>
   k0 aR) n 0 ([])) n 0 ([])
 else
 aK (aZ (aA (i-1)) xm.aa.ad.length) <|
 let fw:=(xm.aa.ad.set ((aA (i-1)).toNat) nj)
 bif (decide (0<nj.Links))||(nj.Kind==0) then
  k0 ⟨⟨xm.aa.au,fw,xm.aa.ab⟩,mo.an,xm.ae,mo.Next⟩
 else
 eW i xm.ae (fun Wg =>
  ea ((aA (i-1)).toNat) fw (fun blocks_1 =>
  ey 0 fun i_3 =>
  aK (aZ (aA (i-1)) fw.length) <|
  let z8:=(fw.set ((aA (i-1)).toNat) i_3)
  hZ n ⟨⟨xm.aa.au,z8,xm.aa.ab⟩,mo.an,Wg,mo.Next⟩ ⟨0,5,i,0,0,0,eS,false,false,0,blocks_1⟩ fun dJ lq =>
  k0 dJ) n 0 ([])) n 0 ([])
def og (n:Nat) (block:Int) (slot:Int) (xby:Int) (xm:Mem) (k0:Mem->Option R):Option R :=
 aK (aZ (aA (block-1)) xm.aa.ab.length) <|
 aK (aZ slot (((xm.aa.ab.getD ((aA (block-1)).toNat) aC).ah).length)) <|
 tV n xm block slot fun r =>
 tZ n r xm fun cS mo =>
 aK (aZ (aA (block-1)) xm.aa.ab.length) <|
 aK (aZ slot (((xm.aa.ab.getD ((aA (block-1)).toNat) aC).ah).length)) <|
 let row:=(xm.aa.ab.set ((aA (block-1)).toNat) ⟨(xm.aa.ab.getD ((aA (block-1)).toNat) aC).cf,(((xm.aa.ab.getD ((aA (block-1)).toNat) aC).ah).set slot.toNat ⟨eS,0⟩),(xm.aa.ab.getD ((aA (block-1)).toNat) aC).Text⟩)
 bY block fun dT =>
 ca dT ⟨⟨xm.aa.au,xm.aa.ad,row⟩,xm.an,xm.ae,mo.Next⟩ fun ku =>
 bif (cS==2)||(cS==3) then
  oA n r xby ⟨⟨xm.aa.au,xm.aa.ad,row⟩,ku.an,xm.ae,ku.Next⟩ fun rL =>
  my n ((((xm.aa.ab.getD ((aA (block-1)).toNat) aC).ah).getD slot.toNat aq).Ino) rL fun Gc =>
  k0 Gc
 else
 hZ n ⟨⟨xm.aa.au,xm.aa.ad,row⟩,ku.an,xm.ae,ku.Next⟩ ⟨0,4,(((xm.aa.ab.getD ((aA (block-1)).toNat) aC).ah).getD slot.toNat aq).Ino,0,block,slot,(((xm.aa.ab.getD ((aA (block-1)).toNat) aC).ah).getD slot.toNat aq).Name,false,false,xby,[]⟩ fun aR lq =>
 k0 aR
def nV (n:Nat) (xm:Mem) (p:ByteArray) (k0:Mem->Int->Option R):Option R :=
 dB n xm fun aR =>
 kP n p fun r cS dT =>
 lL n xm fun lq =>
 bif (!lq)||(!dT) then
  k0 aR 6
 else
 gT n xm.aa r fun mG =>
 mf n xm.aa mG cS fun uV AH uR =>
 bif (uR==0) then
  k0 aR 1
 else
 uL n xm.aa uR fun EH =>
 aK (!(!(decide (0<(EH.length:Int))))||(aZ (aA (uR-1)) xm.aa.ad.length)) <|
 xZ n xm uR fun LB =>
 let z:=bif (!(decide (0<(EH.length:Int))))&&(((xm.aa.ad.getD ((aA (uR-1)).toNat) az).Kind)==2) then LB else false
 jH aR fun nD mo =>
 let uW:=bif !((decide (0<(EH.length:Int)))||((((xm.aa.ad.getD ((aA (uR-1)).toNat) az).Kind)==2)&&z)) then nD else false
 let Ai:=bif !((decide (0<(EH.length:Int)))||((((xm.aa.ad.getD ((aA (uR-1)).toNat) az).Kind)==2)&&z)) then mo.Next else aR.Next
 bif ((decide (0<(EH.length:Int)))||((((xm.aa.ad.getD ((aA (uR-1)).toNat) az).Kind)==2)&&z))||(!uW) then
  k0 ⟨aR.aa,aR.an,aR.ae,Ai⟩ 5
 else
 dB n xm fun dJ =>
 og n uV AH 0 dJ fun ku =>
 k0 ku 0
def jJ (n:Nat) (list:List ByteArray) (eM:List Bool) (dz:List Bool) (gr:List aV) (jk:List Block) (lW:List Bool) (ia:List bG) (q0:Bool->Option R) (q1:Option R):Nat->Int->Int->Int->Option R
 | 0,_,_,_=>none
 | m+1,i,xk,v =>
  bif (decide (xk<(list.length:Int))) then
  aK (aZ xk list.length) <|
  mf n ⟨⟨eM,dz⟩,gr,jk⟩ i (list.getD xk.toNat eS) fun r cS dT =>
  tV n ⟨⟨⟨eM,dz⟩,gr,jk⟩,lW,ia,v⟩ r cS fun lq =>
  tZ n lq ⟨⟨⟨eM,dz⟩,gr,jk⟩,lW,ia,v⟩ fun mG mo =>
  bif (decide (0<dT))&&((mG==2)||(mG==3)) then
   q0 true
  else
  jJ n list eM dz gr jk lW ia q0 q1 m dT (aA (xk+1)) mo.Next
  else
  q1
def tS (n:Nat) (xm:Mem) (dir:ByteArray) (k0:Bool->Option R):Option R :=
 jq n dir fun r cS =>
 jJ n r xm.aa.au.ab xm.aa.au.bF xm.aa.ad xm.aa.ab xm.an xm.ae (fun x =>
  k0 x) (
  k0 false) n 1 0 xm.Next
def ry (n:Nat) (xm:Mem) (p:ByteArray) (q:ByteArray) (k0:Mem->Int->Option R):Option R :=
 dB n xm fun aR =>
 kP n p fun r cS dT =>
 kP n q fun lq mG uV =>
 lL n xm fun AH =>
 bif ((!AH)||(!dT))||(!uV) then
  k0 aR 6
 else
 gT n xm.aa r fun uR =>
 mf n xm.aa uR cS fun EH LB nD =>
 gT n xm.aa lq fun DA =>
 bif (nD==0)||(DA==0) then
  k0 aR 1
 else
 aK (aZ (aA (nD-1)) xm.aa.ad.length) <|
 aK (!(!(!(((xm.aa.ad.getD ((aA (nD-1)).toNat) az).Kind)==1)))||(aZ (aA (DA-1)) xm.aa.ad.length)) <|
 bif (!(((xm.aa.ad.getD ((aA (nD-1)).toNat) az).Kind)==1))||(!(((xm.aa.ad.getD ((aA (DA-1)).toNat) az).Kind)==2)) then
  k0 aR 3
 else
 gT n xm.aa q fun Nm =>
 bif (!(Nm==0)) then
  k0 aR 2
 else
 qF n xm DA mG fun Ki =>
 tS n xm lq fun Nn =>
 let z:=bif !Ki then Nn else false
 bif Ki||z then
  k0 aR 5
 else
 jH aR fun TC mo =>
 bif !TC then
  k0 ⟨aR.aa,aR.an,aR.ae,mo.Next⟩ 4
 else
 aK (aZ (aA (nD-1)) xm.aa.ad.length) <|
 bif (decide (200<=(xm.aa.ad.getD ((aA (nD-1)).toNat) az).Links)) then
  k0 ⟨aR.aa,aR.an,aR.ae,mo.Next⟩ 5
 else
 dB n xm fun dJ =>
 aK (aZ (aA (nD-1)) xm.aa.ad.length) <|
 aK (aZ (aA (nD-1)) dJ.aa.ad.length) <|
 let row:=(dJ.aa.ad.set ((aA (nD-1)).toNat) ⟨(dJ.aa.ad.getD ((aA (nD-1)).toNat) az).Kind,(aA (((xm.aa.ad.getD ((aA (nD-1)).toNat) az).Links)+1)),(dJ.aa.ad.getD ((aA (nD-1)).toNat) az).ay⟩)
 dO nD fun Th =>
 ca Th ⟨⟨dJ.aa.au,row,dJ.aa.ab⟩,dJ.an,dJ.ae,dJ.Next⟩ fun ku =>
 qx n DA mG nD ⟨⟨dJ.aa.au,row,dJ.aa.ab⟩,ku.an,dJ.ae,ku.Next⟩ fun Ka rL =>
 bif (Ka==0) then
  k0 ⟨aR.aa,aR.an,aR.ae,mo.Next⟩ 4
 else
 og n EH LB Ka rL fun Gc =>
 k0 Gc 0
def ql (n:Nat) (xm:Mem) (e:Event) (k0:Mem->Int->Bool->Option R):Option R :=
 bif (e.Kind==1) then
  oH n xm e.Path 1 fun aR r =>
  k0 aR r true
 else
 bif (e.Kind==2) then
  oH n xm e.Path 2 fun dJ cS =>
  k0 dJ cS true
 else
 bif (e.Kind==3) then
  pK n xm e.Path e.At e.Text fun pj dT =>
  k0 pj dT true
 else
 bif (e.Kind==4) then
  nV n xm e.Path fun uY lq =>
  k0 uY lq true
 else
 bif (e.Kind==5) then
  ry n xm e.Path e.To fun acI mG =>
  k0 acI mG true
 else
 k0 xm 0 false
def g8 (q0:(List Node)->Option R):Nat->Int->(List Node)->Option R
 | 0,_,_=>none
 | m+1,xk,out =>
  aK (!(decide (0<xk))||(aZ (aA (xk-1)) out.length)) <|
  aK (!(decide (0<xk))||(aZ xk out.length)) <|
  bif (decide (0<xk))&&(Rf ((out.getD xk.toNat eK).Path) ((out.getD ((aA (xk-1)).toNat) eK).Path)) then
  aK (aZ xk out.length) <|
  let el:=(out.getD xk.toNat eK)
  aK (aZ (aA (xk-1)) out.length) <|
  let kR:=(out.getD ((aA (xk-1)).toNat) eK)
  aK (aZ xk out.length) <|
  let row:=(out.set xk.toNat kR)
  aK (aZ (aA (xk-1)) row.length) <|
  let cg:=(row.set ((aA (xk-1)).toNat) el)
  g8 q0 m (aA (xk-1)) cg
  else
  q0 out
def fX (q0:(List Node)->Option R):Nat->Int->(List Node)->Option R
 | 0,_,_=>none
 | m+1,i,out =>
  bif (decide (i<(out.length:Int))) then
  g8 (fun CU =>
   fX q0 m (aA (i+1)) CU) m i out
  else
  q0 out
def jo (n:Nat) (list:List Node) (k0:(List Node)->Option R):Option R :=
 let row:=(([])++list)
 aK (bg row) <|
 fX (fun out =>
  k0 out) n 1 row
def rE (p:ByteArray) (top:ByteArray) (k0:Bool->Option R):Option R :=
 aK (!((!(p==top))&&(decide ((top.size:Int)<(p.size:Int))))||(qh (aA ((top.size:Int)+1)) p.size)) <|
 aK (!((!(p==top))&&(decide ((top.size:Int)<(p.size:Int))))||(lY top (S [47]))) <|
 k0 ((p==top)||((decide ((top.size:Int)<(p.size:Int)))&&((p.extract 0 ((aA ((top.size:Int)+1)).toNat))==(top++(S [47])))))
def dc (eM:ByteArray) (gr:Int) (jk:ByteArray) (q0:(List Node)->Option R):Nat->Int->(List Node)->Option R
 | 0,_,_=>none
 | m+1,i,out =>
  bif (decide (i<(out.length:Int))) then
  aK (aZ i out.length) <|
  aK (!(!(!(((out.getD i.toNat eK).Path)==eM)))||(aZ i out.length)) <|
  bif (!(((out.getD i.toNat eK).Path)==eM))||((out.getD i.toNat eK).cf) then
   dc eM gr jk q0 m (aA (i+1)) out
  else
  bif (gr==0) then
   aK (aZ i out.length) <|
   let row:=(out.set i.toNat ⟨(out.getD i.toNat eK).Path,(out.getD i.toNat eK).cf,jk,(out.getD i.toNat eK).OX⟩)
   dc eM gr jk q0 m (aA (i+1)) row
  else
  aK (aZ i out.length) <|
  let cg:=(out.set i.toNat ⟨(out.getD i.toNat eK).Path,(out.getD i.toNat eK).cf,(out.getD i.toNat eK).Head,jk⟩)
  dc eM gr jk q0 m (aA (i+1)) cg
  else
  q0 out
def dj (eM:ByteArray) (out:List Node) (q0:(List Node)->Option R):Nat->Int->(List Node)->Option R
 | 0,_,_=>none
 | m+1,i,rest =>
  bif (decide (i<(out.length:Int))) then
  aK (aZ i out.length) <|
  rE ((out.getD i.toNat eK).Path) eM fun r =>
  bif !r then
   aK (aZ i out.length) <|
   let el:=(out.getD i.toNat eK)
   let row:=(rest++([el]))
   aK (bg row) <|
   dj eM out q0 m (aA (i+1)) row
  else
  dj eM out q0 m (aA (i+1)) rest
  else
  q0 rest
def dh (eM:ByteArray) (dz:ByteArray) (q0:(List Node)->Option R):Nat->Int->(List Node)->Option R
 | 0,_,_=>none
 | m+1,i,out =>
  bif (decide (i<(out.length:Int))) then
  aK (aZ i out.length) <|
  aK (!(((out.getD i.toNat eK).Path)==eM)||(aZ i out.length)) <|
  bif (((out.getD i.toNat eK).Path)==eM)&&(!((out.getD i.toNat eK).cf)) then
   aK (aZ i out.length) <|
   let row:=(out.set i.toNat ⟨dz,(out.getD i.toNat eK).cf,(out.getD i.toNat eK).Head,(out.getD i.toNat eK).OX⟩)
   dh eM dz q0 m (aA (i+1)) row
  else
  dh eM dz q0 m (aA (i+1)) out
  else
  q0 out
def lA (n:Nat) (list:List Node) (e:Event) (k0:(List Node)->Option R):Option R :=
 let row:=(([])++list)
 aK (bg row) <|
 bif (e.Kind==1) then
  bif (e.Kind==1) then
  let cg:=(row++([⟨e.Path,(e.Kind==2),eS,eS⟩]))
  aK (bg cg) <|
  jo n cg fun r =>
  k0 r
  else
  bif (e.Kind==3) then
  dc e.Path e.At e.Text (fun out =>
   k0 out) n 0 row
  else
  bif (e.Kind==4) then
  dj e.Path row (fun rest =>
   k0 rest) n 0 ([])
  else
  bif (e.Kind==5) then
  dh e.Path e.To (fun CU =>
   jo n CU fun cS =>
   k0 cS) n 0 row
  else
  k0 row
 else
 bif (e.Kind==2) then
  let fw:=(row++([⟨e.Path,(e.Kind==2),eS,eS⟩]))
  aK (bg fw) <|
  jo n fw fun dT =>
  k0 dT
 else
 bif (e.Kind==3) then
  dc e.Path e.At e.Text (fun Zf =>
  k0 Zf) n 0 row
 else
 bif (e.Kind==4) then
  dj e.Path row (fun V6 =>
  k0 V6) n 0 ([])
 else
 bif (e.Kind==5) then
  dh e.Path e.To (fun YG =>
  jo n YG fun lq =>
  k0 lq) n 0 row
 else
 k0 row
def fm (i:Int) (dQ:List bG) (q0:(List Int)->Option R):Nat->Int->(List Int)->Option R
 | 0,_,_=>none
 | m+1,xk,ic =>
  bif (decide (xk<(dQ.length:Int))) then
  aK (aZ xk dQ.length) <|
  let el:=(dQ.getD xk.toNat aJ)
  bif (((el.Kind==1)&&(el.Ino==i))&&(decide (0<=el.Ptr)))&&(decide (el.Ptr<(ic.length:Int))) then
   aK (aZ el.Ptr ic.length) <|
   let row:=(ic.set el.Ptr.toNat 0)
   fm i dQ q0 m (aA (xk+1)) row
  else
  fm i dQ q0 m (aA (xk+1)) ic
  else
  q0 ic
def nR (n:Nat) (xm:Mem) (i:Int) (k0:aV->Option R):Option R :=
 cq i 1 (xm.aa.ad.length:Int) fun r =>
 bif !r then
  ey 0 fun nj =>
  k0 nj
 else
 aK (aZ (aA (i-1)) xm.aa.ad.length) <|
 let el:=(xm.aa.ad.getD ((aA (i-1)).toNat) az)
 ob el fun Ns =>
 fm i xm.ae (fun v =>
  k0 ⟨Ns.Kind,Ns.Links,v⟩) n 0 Ns.ay
def dg (p:Int) (dQ:List bG) (q0:(List Slot)->Option R):Nat->Int->(List Slot)->Option R
 | 0,_,_=>none
 | m+1,xk,ic =>
  bif (decide (xk<(dQ.length:Int))) then
  aK (aZ xk dQ.length) <|
  let el:=(dQ.getD xk.toNat aJ)
  bif ((!(el.Block==p))||(decide (el.Slot<0)))||(decide ((ic.length:Int)<=el.Slot)) then
   dg p dQ q0 m (aA (xk+1)) ic
  else
  bif (el.Kind==2) then
   aK (aZ el.Slot ic.length) <|
   let row:=(ic.set el.Slot.toNat ⟨eS,0⟩)
   bif (el.Kind==4)&&(decide (0<el.bx)) then
   aK (aZ el.Slot row.length) <|
   let cg:=(row.set el.Slot.toNat ⟨el.Name,el.Ino⟩)
   dg p dQ q0 m (aA (xk+1)) cg
   else
   dg p dQ q0 m (aA (xk+1)) row
  else
  bif (el.Kind==4)&&(decide (0<el.bx)) then
   aK (aZ el.Slot ic.length) <|
   let fw:=(ic.set el.Slot.toNat ⟨el.Name,el.Ino⟩)
   dg p dQ q0 m (aA (xk+1)) fw
  else
  dg p dQ q0 m (aA (xk+1)) ic
  else
  q0 ic
def nW (n:Nat) (xm:Mem) (p:Int) (k0:Block->Option R):Option R :=
 cq p 1 (xm.aa.ab.length:Int) fun r =>
 bif !r then
  k0 ⟨false,[],eS⟩
 else
 aK (aZ (aA (p-1)) xm.aa.ab.length) <|
 let el:=(xm.aa.ab.getD ((aA (p-1)).toNat) aC)
 mr el fun b =>
 dg p xm.ae (fun v =>
  k0 ⟨b.cf,v,b.Text⟩) n 0 b.ah
def rq (n:Nat) (d:aa) (u:Int) (k0:ByteArray->Bool->Option R):Option R :=
 qu n d fun r =>
 cq u 0 20 fun cS =>
 let z:=bif !(!r) then cS else false
 bif (!r)||(!z) then
  k0 eS false
 else
 qi n d u fun dT =>
 k0 dT true
def hY (n:Nat) (v:Int) (eM:List Bool) (dz:List Bool) (gr:List aV) (jk:List Block) (lW:List Bool) (ia:List bG) (q0:(List aV)->Option R):Nat->Int->(List aV)->Option R
 | 0,_,_=>none
 | m+1,i,rM =>
  bif (decide (i<=8)) then
  nR n ⟨⟨⟨eM,dz⟩,gr,jk⟩,lW,ia,v⟩ i fun nj =>
  aK (aZ (aA (i-1)) rM.length) <|
  let row:=(rM.set ((aA (i-1)).toNat) nj)
  hY n v eM dz gr jk lW ia q0 m (aA (i+1)) row
  else
  q0 rM
def g5 (n:Nat) (v:Int) (eM:List Bool) (dz:List Bool) (gr:List aV) (jk:List Block) (lW:List Bool) (ia:List bG) (q0:(List Block)->Option R):Nat->Int->(List Block)->Option R
 | 0,_,_=>none
 | m+1,p,dQ =>
  bif (decide (p<=16)) then
  nW n ⟨⟨⟨eM,dz⟩,gr,jk⟩,lW,ia,v⟩ p fun b =>
  aK (aZ (aA (p-1)) dQ.length) <|
  let row:=(dQ.set ((aA (p-1)).toNat) b)
  g5 n v eM dz gr jk lW ia q0 m (aA (p+1)) row
  else
  q0 dQ
def pI (n:Nat) (xm:Mem) (u:Int) (k0:ByteArray->Bool->Option R):Option R :=
 lL n xm fun r =>
 cq u 0 20 fun cS =>
 let z:=bif !(!r) then cS else false
 bif (!r)||(!z) then
  k0 eS false
 else
 jU n xm.aa fun d =>
 hY n xm.Next xm.aa.au.ab xm.aa.au.bF xm.aa.ad xm.aa.ab xm.an xm.ae (fun v =>
  g5 n xm.Next xm.aa.au.ab xm.aa.au.bF xm.aa.ad xm.aa.ab xm.an xm.ae (fun eM =>
  rq n ⟨d.au,v,eM⟩ u fun dT lq =>
  k0 dT lq) n 1 d.ab) n 1 d.ad
def iX (v:List ByteArray) (q0:Bool->Option R) (q1:Option R):Nat->Int->Option R
 | 0,_=>none
 | m+1,i =>
  bif (decide (i<(v.length:Int))) then
  aK (aZ i v.length) <|
  bif (decide (60<((v.getD i.toNat eS).size:Int))) then
   q0 false
  else
  iX v q0 q1 m (aA (i+1))
  else
  q1
def oG (n:Nat) (d:Device) (k0:Bool->Option R):Option R :=
 iX d.cA (fun x =>
  k0 x) (
  k0 ((d.cA.length:Int)==21)) n 0
def F1 (n:Nat) (f:Fs) (k0:Bool->Option R):Option R :=
 lL n f.Mem fun r =>
 oG n f.Device fun cS =>
 let z:=bif r then cS else false
 k0 (r&&z)
def n8 (n:Nat) (f:Fs) (k0:Fs->Option R):Option R :=
 dB n f.Mem fun xm =>
 let row:=(([])++f.Device.cA)
 aK (bg row) <|
 k0 ⟨xm,⟨row⟩⟩
def pH (n:Nat) (d:Device) (u:Int) (s:ByteArray) (k0:Device->Bool->Option R):Option R :=
 let row:=(([])++d.cA)
 aK (bg row) <|
 oG n d fun r =>
 cq u 0 20 fun cS =>
 let z:=bif !(!r) then cS else false
 bif ((!r)||(!z))||(decide (60<(s.size:Int))) then
  k0 ⟨row⟩ false
 else
 aK (aZ u row.length) <|
 let cg:=(row.set u.toNat s)
 k0 ⟨cg⟩ true
def fE (u:Int) (q0:(List bG)->Option R):Nat->Int->(List bG)->Option R
 | 0,_,_=>none
 | m+1,xk,deps =>
  bif (decide (xk<(deps.length:Int))) then
  aK (aZ xk deps.length) <|
  let el:=(deps.getD xk.toNat aJ)
  bif (u==0)&&((el.Kind==1)||(el.Kind==2)) then
   aK (aZ xk deps.length) <|
   let row:=(deps.set xk.toNat ⟨(deps.getD xk.toNat aJ).Id,(deps.getD xk.toNat aJ).Kind,(deps.getD xk.toNat aJ).Ino,(deps.getD xk.toNat aJ).Ptr,(deps.getD xk.toNat aJ).Block,(deps.getD xk.toNat aJ).Slot,(deps.getD xk.toNat aJ).Name,true,(deps.getD xk.toNat aJ).eJ,(deps.getD xk.toNat aJ).bx,(deps.getD xk.toNat aJ).ab⟩)
   dO el.Ino fun r =>
   let z:=bif (el.Kind==2) then r else 0
   bY el.Block fun cS =>
   let uW:=bif (!((el.Kind==2)&&(z==u)))&&(el.Kind==1) then cS else 0
   bif ((el.Kind==2)&&(z==u))||((el.Kind==1)&&(uW==u)) then
   aK (aZ xk row.length) <|
   let cg:=(row.set xk.toNat ⟨(row.getD xk.toNat aJ).Id,(row.getD xk.toNat aJ).Kind,(row.getD xk.toNat aJ).Ino,(row.getD xk.toNat aJ).Ptr,(row.getD xk.toNat aJ).Block,(row.getD xk.toNat aJ).Slot,(row.getD xk.toNat aJ).Name,(row.getD xk.toNat aJ).au,true,(row.getD xk.toNat aJ).bx,(row.getD xk.toNat aJ).ab⟩)
   fE u q0 m (aA (xk+1)) cg
   else
   fE u q0 m (aA (xk+1)) row
  else
  dO el.Ino fun dT =>
  let Ai:=bif (el.Kind==2) then dT else 0
  bY el.Block fun lq =>
  let Np:=bif (!((el.Kind==2)&&(Ai==u)))&&(el.Kind==1) then lq else 0
  bif ((el.Kind==2)&&(Ai==u))||((el.Kind==1)&&(Np==u)) then
   aK (aZ xk deps.length) <|
   let fw:=(deps.set xk.toNat ⟨(deps.getD xk.toNat aJ).Id,(deps.getD xk.toNat aJ).Kind,(deps.getD xk.toNat aJ).Ino,(deps.getD xk.toNat aJ).Ptr,(deps.getD xk.toNat aJ).Block,(deps.getD xk.toNat aJ).Slot,(deps.getD xk.toNat aJ).Name,(deps.getD xk.toNat aJ).au,true,(deps.getD xk.toNat aJ).bx,(deps.getD xk.toNat aJ).ab⟩)
   fE u q0 m (aA (xk+1)) fw
  else
  fE u q0 m (aA (xk+1)) deps
  else
  q0 deps
def yt (n:Nat) (u:Int) (xm:Mem) (k0:Mem->Option R):Option R :=
 fE u (fun deps =>
  k0 ⟨xm.aa,xm.an,deps,xm.Next⟩) n 0 xm.ae
def gN (dQ:List Int) (q0:(List Bool)->Option R):Nat->Int->(List Bool)->Option R
 | 0,_,_=>none
 | m+1,xk,bb =>
  bif (decide (xk<(dQ.length:Int))) then
  aK (aZ xk dQ.length) <|
  aK (aZ (aA ((dQ.getD xk.toNat 0)-1)) bb.length) <|
  let row:=(bb.set ((aA ((dQ.getD xk.toNat 0)-1)).toNat) false)
  gN dQ q0 m (aA (xk+1)) row
  else
  q0 bb
def fa (n:Nat) (all:List bG) (dQ:List Int) (q0:Int->(List Bool)->(List Bool)->(List aV)->(List Block)->(List Bool)->(List bG)->Option R):Nat->Int->Int->(List Bool)->(List Bool)->(List aV)->(List Block)->(List Bool)->(List bG)->Option R
 | 0,_,_,_,_,_,_,_,_=>none
 | m+1,xk,next,bb,bi,di,db,bK,deps =>
  bif (decide (xk<(all.length:Int))) then
  aK (aZ xk all.length) <|
  aK (!(((all.getD xk.toNat aJ).Kind)==4)||(aZ xk all.length)) <|
  s7 n dQ ((all.getD xk.toNat aJ).Block) fun r =>
  let z:=bif (((all.getD xk.toNat aJ).Kind)==4) then r else false
  bif (((all.getD xk.toNat aJ).Kind)==4)&&z then
   aK (aZ xk all.length) <|
   kU n ⟨⟨⟨bb,bi⟩,di,db⟩,bK,deps,next⟩ ((all.getD xk.toNat aJ).Id) fun xm =>
   aK (aZ xk all.length) <|
   my n ((all.getD xk.toNat aJ).Ino) xm fun mo =>
   fa n all dQ q0 m (aA (xk+1)) mo.Next mo.aa.au.ab mo.aa.au.bF mo.aa.ad mo.aa.ab mo.an mo.ae
  else
  fa n all dQ q0 m (aA (xk+1)) next bb bi di db bK deps
  else
  q0 next bb bi di db bK deps
def rK (n:Nat) (d:bG) (xm:Mem) (k0:Mem->Option R):Option R :=
 kU n xm d.Id fun aR =>
 gN d.ab (fun bb =>
  aK (aZ (aA (d.Ino-1)) aR.aa.au.bF.length) <|
  let row:=(aR.aa.au.bF.set ((aA (d.Ino-1)).toNat) false)
  ca 0 ⟨⟨⟨bb,row⟩,aR.aa.ad,aR.aa.ab⟩,aR.an,aR.ae,aR.Next⟩ fun mo =>
  fa n aR.ae d.ab (fun next QP bi di db bK deps =>
  k0 ⟨⟨⟨QP,bi⟩,di,db⟩,bK,deps,next⟩) n 0 mo.Next bb row aR.aa.ad aR.aa.ab mo.an aR.ae) n 0 aR.aa.au.ab
def gy (block:Int) (list:List bG) (q0:Bool->Option R) (q1:Option R):Nat->Int->Option R
 | 0,_=>none
 | m+1,xk =>
  bif (decide (xk<(list.length:Int))) then
  aK (aZ xk list.length) <|
  aK (!(!(((list.getD xk.toNat aJ).Kind)==1))||(aZ xk list.length)) <|
  aK (!((((list.getD xk.toNat aJ).Kind)==1)||(((list.getD xk.toNat aJ).Kind)==6))||(aZ xk list.length)) <|
  bif ((((list.getD xk.toNat aJ).Kind)==1)||(((list.getD xk.toNat aJ).Kind)==6))&&(((list.getD xk.toNat aJ).Block)==block) then
   q0 true
  else
  gy block list q0 q1 m (aA (xk+1))
  else
  q1
def nS (n:Nat) (list:List bG) (block:Int) (k0:Bool->Option R):Option R :=
 gy block list (fun x =>
  k0 x) (
  k0 false) n 0
def fQ (n:Nat) (before:List bG) (bb:List Bool) (bi:List Bool) (di:List aV) (db:List Block) (deps:List bG) (q0:Int->(List bG)->(List Bool)->Option R):Nat->Int->Int->(List bG)->(List Bool)->Option R
 | 0,_,_,_,_=>none
 | m+1,xk,next,list,bK =>
  bif (decide (xk<(before.length:Int))) then
  aK (aZ xk before.length) <|
  let el:=(before.getD xk.toNat aJ)
  bif ((el.Kind==1)&&el.au)&&el.eJ then
   dO el.Ino fun r =>
   ca r ⟨⟨⟨bb,bi⟩,di,db⟩,bK,deps,next⟩ fun mo =>
   nS n before el.Block fun cS =>
   let z:=bif false then cS else false
   let row:=(list++([⟨el.Id,6,el.Ino,el.Ptr,el.Block,el.Slot,el.Name,el.au,el.eJ,el.bx,(before.getD xk.toNat aJ).ab⟩]))
   aK (bg row) <|
   fQ n before bb bi di db deps q0 m (aA (xk+1)) mo.Next row mo.an
  else
  nS n before el.Block fun dT =>
  let uW:=bif ((el.Kind==2)&&el.au)&&el.eJ then dT else false
  bif (((el.Kind==2)&&el.au)&&el.eJ)&&(!uW) then
   bY el.Block fun lq =>
   ca lq ⟨⟨⟨bb,bi⟩,di,db⟩,bK,deps,next⟩ fun ku =>
   let cg:=(list++([⟨el.Id,3,el.Ino,el.Ptr,el.Block,el.Slot,el.Name,el.au,el.eJ,el.bx,(before.getD xk.toNat aJ).ab⟩]))
   aK (bg cg) <|
   fQ n before bb bi di db deps q0 m (aA (xk+1)) ku.Next cg ku.an
  else
  let fw:=(list++([el]))
  aK (bg fw) <|
  fQ n before bb bi di db deps q0 m (aA (xk+1)) next fw bK
  else
  q0 next list bK
def mw (n:Nat) (xm:Mem) (k0:Mem->Option R):Option R :=
 let row:=(([])++xm.ae)
 aK (bg row) <|
 fQ n row xm.aa.au.ab xm.aa.au.bF xm.aa.ad xm.aa.ab xm.ae (fun next list bK =>
  k0 ⟨xm.aa,bK,list,next⟩) n 0 xm.Next ([]) xm.an
def iN (n:Nat) (u:Int) (before:List bG) (q0:Int->(List Bool)->(List Bool)->(List aV)->(List Block)->(List Bool)->(List bG)->Option R):Nat->Int->Int->(List Bool)->(List Bool)->(List aV)->(List Block)->(List Bool)->(List bG)->Option R
 | 0,_,_,_,_,_,_,_,_=>none
 | m+1,xk,eM,C4,rM,dQ,ph,ic,fV =>
  bif (decide (xk<(before.length:Int))) then
  aK (aZ xk before.length) <|
  let el:=(before.getD xk.toNat aJ)
  dO el.Ino fun r =>
  let z:=bif (el.Kind==6) then r else 0
  bif (el.Kind==6)&&(z==u) then
   kU n ⟨⟨⟨C4,rM⟩,dQ,ph⟩,ic,fV,eM⟩ el.Id fun xm =>
   iN n u before q0 m (aA (xk+1)) xm.Next xm.aa.au.ab xm.aa.au.bF xm.aa.ad xm.aa.ab xm.an xm.ae
  else
  dO el.Ino fun cS =>
  let uW:=bif (el.Kind==5) then cS else 0
  bif (el.Kind==5)&&(uW==u) then
   rK n el ⟨⟨⟨C4,rM⟩,dQ,ph⟩,ic,fV,eM⟩ fun mo =>
   iN n u before q0 m (aA (xk+1)) mo.Next mo.aa.au.ab mo.aa.au.bF mo.aa.ad mo.aa.ab mo.an mo.ae
  else
  bY el.Block fun dT =>
  let Ai:=bif (el.Kind==3) then dT else 0
  bif (el.Kind==3)&&(Ai==u) then
   oA n el.Id 0 ⟨⟨⟨C4,rM⟩,dQ,ph⟩,ic,fV,eM⟩ fun ku =>
   iN n u before q0 m (aA (xk+1)) ku.Next ku.aa.au.ab ku.aa.au.bF ku.aa.ad ku.aa.ab ku.an ku.ae
  else
  bY el.Block fun lq =>
  let Np:=bif (el.Kind==4)&&(el.bx==0) then lq else 0
  bif ((el.Kind==4)&&(el.bx==0))&&(Np==u) then
   kU n ⟨⟨⟨C4,rM⟩,dQ,ph⟩,ic,fV,eM⟩ el.Id fun aR =>
   my n el.Ino aR fun rL =>
   iN n u before q0 m (aA (xk+1)) rL.Next rL.aa.au.ab rL.aa.au.bF rL.aa.ad rL.aa.ab rL.an rL.ae
  else
  iN n u before q0 m (aA (xk+1)) eM C4 rM dQ ph ic fV
  else
  q0 eM C4 rM dQ ph ic fV
def FN (n:Nat) (xm:Mem) (u:Int) (k0:Mem->Option R):Option R :=
 dB n xm fun aR =>
 lL n xm fun r =>
 cq u 0 20 fun cS =>
 let z:=bif !(!r) then cS else false
 bif (!r)||(!z) then
  k0 aR
 else
 aK (aZ u aR.an.length) <|
 let row:=(aR.an.set u.toNat false)
 yt n u ⟨aR.aa,row,aR.ae,aR.Next⟩ fun mo =>
 iN n u xm.ae (fun v eM dz gr jk lW ia =>
  mw n ⟨⟨⟨eM,dz⟩,gr,jk⟩,lW,ia,v⟩ fun ku =>
  k0 ku) n 0 mo.Next mo.aa.au.ab mo.aa.au.bF mo.aa.ad mo.aa.ab mo.an mo.ae
def il (n:Nat) (f:Fs) (u:Int) (k0:Fs->Bool->Option R):Option R :=
 pI n f.Mem u fun r cS =>
 F1 n f fun dT =>
 bif (!dT)||(!cS) then
  n8 n f fun NV =>
  k0 NV false
 else
 pH n f.Device u r fun d lq =>
 bif !lq then
  n8 n f fun Z2 =>
  k0 Z2 false
 else
 FN n f.Mem u fun xm =>
 k0 ⟨xm,d⟩ true
def BU (fV:List Bool) (q0:Int->Option R):Nat->Int->Option R
 | 0,_=>none
 | m+1,u =>
  aK (!(decide (u<(fV.length:Int)))||(aZ u fV.length)) <|
  bif (decide (u<(fV.length:Int)))&&(!(fV.getD u.toNat false)) then
  BU fV q0 m (aA (u+1))
  else
  q0 u
def jW (fV:List Bool) (q0:Int->Option R):Nat->Int->Option R
 | 0,_=>none
 | m+1,u =>
  aK (!(decide (u<(fV.length:Int)))||(aZ u fV.length)) <|
  bif (decide (u<(fV.length:Int)))&&(!(fV.getD u.toNat false)) then
  jW fV q0 m (aA (u+1))
  else
  q0 u
def mc (n:Nat) (q0:Int->(List Bool)->(List Bool)->(List aV)->(List Block)->(List Bool)->(List bG)->(List ByteArray)->Option R) (q1:Int->(List Bool)->(List Bool)->(List aV)->(List Block)->(List Bool)->(List bG)->(List ByteArray)->Option R):Nat->Int->Int->(List Bool)->(List Bool)->(List aV)->(List Block)->(List Bool)->(List bG)->(List ByteArray)->Option R
 | 0,_,_,_,_,_,_,_,_,_=>none
 | m+1,i,eM,rM,dQ,ph,ic,fV,An,sq =>
  bif (decide (i<400)) then
  jW fV (fun u =>
   bif (u==(fV.length:Int)) then
   q0 eM rM dQ ph ic fV An sq
   else
   il n ⟨⟨⟨⟨rM,dQ⟩,ph,ic⟩,fV,An,eM⟩,⟨sq⟩⟩ u fun f r =>
   bif !r then
   q0 eM rM dQ ph ic fV An sq
   else
   mc n q0 q1 m (aA (i+1)) f.Mem.Next f.Mem.aa.au.ab f.Mem.aa.au.bF f.Mem.aa.ad f.Mem.aa.ab f.Mem.an f.Mem.ae f.Device.cA) m 0
  else
  q1 eM rM dQ ph ic fV An sq
def pC (n:Nat) (f:Fs) (k0:Fs->Option R):Option R :=
 n8 n f fun NV =>
 mc n (fun v eM dz gr jk lW ia sa =>
  k0 ⟨⟨⟨⟨eM,dz⟩,gr,jk⟩,lW,ia,v⟩,⟨sa⟩⟩) (fun C4 rM dQ ph ic fV An sq =>
  k0 ⟨⟨⟨⟨rM,dQ⟩,ph,ic⟩,fV,An,C4⟩,⟨sq⟩⟩) n 0 NV.Mem.Next NV.Mem.aa.au.ab NV.Mem.aa.au.bF NV.Mem.aa.ad NV.Mem.aa.ab NV.Mem.an NV.Mem.ae NV.Device.cA
def iY (i:Int) (q0:Int->Option R):Nat->Int->Int->Option R
 | 0,_,_=>none
 | m+1,xn,xk =>
  bif (decide (xk<(i.tmod 8))) then
  iY i q0 m (aA (xn.tdiv 2)) (aA (xk+1))
  else
  q0 xn
def dC (s:ByteArray) (q0:(List Bool)->(List Bool)->Option R):Nat->Int->(List Bool)->(List Bool)->Option R
 | 0,_,_,_=>none
 | m+1,i,dz,gr =>
  bif (decide (i<24)) then
  aK (aZ (aA (i.tdiv 8)) s.size) <|
  iY i (fun xn =>
   bif (decide (i<16)) then
   let row:=(dz++([((xn.tmod 2)==1)]))
   aK (bg row) <|
   dC s q0 m (aA (i+1)) row gr
   else
   let cg:=(gr++([((xn.tmod 2)==1)]))
   aK (bg cg) <|
   dC s q0 m (aA (i+1)) dz cg) m (aA ((bt s ((aA (i.tdiv 8)).toNat):Int))) 0
  else
  q0 dz gr
def qN (n:Nat) (s:ByteArray) (k0:au->Bool->Option R):Option R :=
 bif (!((s.size:Int)==3)) then
  k0 ⟨[],[]⟩ false
 else
 dC s (fun v eM =>
  k0 ⟨v,eM⟩ true) n 0 ([]) ([])
def py (n:Nat) (s:ByteArray) (k0:aV->Bool->Option R):Option R :=
 bif (!((s.size:Int)==4)) then
  k0 ⟨0,0,[]⟩ false
 else
 aK (aZ 0 s.size) <|
 aK (aZ 1 s.size) <|
 aK (aZ 2 s.size) <|
 aK (aZ 3 s.size) <|
 let lit:=([(aA ((bt s 2:Int))),(aA ((bt s 3:Int)))]:List Int)
 nZ n ⟨(aA ((bt s 0:Int))),(aA ((bt s 1:Int))),lit⟩ fun r =>
 bif !r then
  k0 ⟨0,0,[]⟩ false
 else
 k0 ⟨(aA ((bt s 0:Int))),(aA ((bt s 1:Int))),lit⟩ true
def j6 (n:Nat) (text:ByteArray) (xat:Int) (q0:Int->Int->Bool->Option R) (q1:Option R):Nat->Int->Int->Int->Option R
 | 0,_,_,_=>none
 | m+1,xn,scale,i =>
  bif (decide (i<(text.size:Int)))&&(decide (i<(aA (xat+5)))) then
  aK (aZ i text.size) <|
  aK (aZ i text.size) <|
  bif (decide ((bt text i.toNat:Int)<128)) then
   tE n (aA (xn+(aA (((aA ((bt text i.toNat:Int))).tmod 128)*scale)))) fun r =>
   let z:=bif !(decide (1000000000<(aA (xn+(aA (((aA ((bt text i.toNat:Int))).tmod 128)*scale)))))) then r else eS
   aK (!(!(decide (1000000000<(aA (xn+(aA (((aA ((bt text i.toNat:Int))).tmod 128)*scale)))))))||(km xat (aA (i+1)) text.size)) <|
   bif (decide (1000000000<(aA (xn+(aA (((aA ((bt text i.toNat:Int))).tmod 128)*scale))))))||(!(z==(text.extract xat.toNat ((aA (i+1)).toNat)))) then
   q0 0 0 false
   else
   q0 (aA (xn+(aA (((aA ((bt text i.toNat:Int))).tmod 128)*scale)))) (aA (i+1)) true
  else
  j6 n text xat q0 q1 m (aA (xn+(aA (((aA ((bt text i.toNat:Int))).tmod 128)*scale)))) (aA (scale*128)) (aA (i+1))
  else
  q1
def uH (n:Nat) (text:ByteArray) (xat:Int) (k0:Int->Int->Bool->Option R):Option R :=
 cq xat 0 (text.size:Int) fun r =>
 bif !r then
  k0 0 0 false
 else
 j6 n text xat (fun x eH qf =>
  k0 x eH qf) (
  k0 0 0 false) n 0 1 xat
def pG (n:Nat) (text:ByteArray) (xat:Int) (k0:ByteArray->Int->Bool->Option R):Option R :=
 uH n text xat fun r cS dT =>
 bif ((!dT)||(decide (20000<r)))||(decide ((aA ((text.size:Int)-cS))<r)) then
  k0 eS 0 false
 else
 aK (km cS (aA (cS+r)) text.size) <|
 k0 (text.extract cS.toNat ((aA (cS+r)).toNat)) (aA (cS+r)) true
def gZ (n:Nat) (s:ByteArray) (q0:Bool->Bool->ByteArray->(List Slot)->Option R) (q1:(List Slot)->Option R):Nat->Int->Int->(List Slot)->Option R
 | 0,_,_,_=>none
 | m+1,xat,i,lW =>
  bif (decide (i<4))&&(decide (xat<(s.size:Int))) then
  pG n s (aA (xat+1)) fun r cS dT =>
  bif !dT then
   q0 false false eS ([])
  else
  aK (aZ xat s.size) <|
  let row:=(lW++([⟨r,(aA ((bt s xat.toNat:Int)))⟩]))
  aK (bg row) <|
  gZ n s q0 q1 m cS (aA (i+1)) row
  else
  q1 lW
def pX (n:Nat) (s:ByteArray) (k0:Block->Bool->Option R):Option R :=
 bif (s==eS) then
  k0 ⟨false,[],eS⟩ false
 else
 aK (qh 1 s.size) <|
 aK (aZ 0 s.size) <|
 bif ((bt s 0:Int)==100) then
  gZ n s (fun x v eM dz =>
  k0 ⟨v,dz,eM⟩ x) (fun gr =>
  ig n ⟨true,gr,eS⟩ fun r cS =>
  bif (!cS)||(!(r==s)) then
   k0 ⟨false,[],eS⟩ false
  else
  k0 ⟨true,gr,eS⟩ true) n 1 0 ([])
 else
 ig n ⟨false,[],(s.extract 1 s.size)⟩ fun dT lq =>
 bif (!lq)||(!(dT==s)) then
  k0 ⟨false,[],eS⟩ false
 else
 k0 ⟨false,[],(s.extract 1 s.size)⟩ true
def jE (q0:(List Bool)->Option R):Nat->Int->(List Bool)->Option R
 | 0,_,_=>none
 | m+1,i,rM =>
  bif (decide (i<(rM.length:Int))) then
  aK (aZ i rM.length) <|
  let row:=(rM.set i.toNat true)
  jE q0 m (aA (i+1)) row
  else
  q0 rM
def iD (q0:(List Bool)->Option R):Nat->Int->(List Bool)->Option R
 | 0,_,_=>none
 | m+1,i,dQ =>
  bif (decide (i<(dQ.length:Int))) then
  aK (aZ i dQ.length) <|
  let row:=(dQ.set i.toNat true)
  iD q0 m (aA (i+1)) row
  else
  q0 dQ
def eX (n:Nat) (v:List ByteArray) (q0:(List aV)->Option R):Nat->Int->(List aV)->Option R
 | 0,_,_=>none
 | m+1,i,sa =>
  bif (decide (i<8)) then
  aK (aZ (aA (1+(aA (i.tdiv 2)))) v.length) <|
  ey 0 fun nj =>
  bif (((v.getD ((aA (1+(aA (i.tdiv 2)))).toNat) eS).size:Int)==8) then
   aK (km (aA (4*(i.tmod 2))) (aA ((aA (4*(i.tmod 2)))+4)) (v.getD ((aA (1+(aA (i.tdiv 2)))).toNat) eS).size) <|
   py n ((v.getD ((aA (1+(aA (i.tdiv 2)))).toNat) eS).extract ((aA (4*(i.tmod 2))).toNat) ((aA ((aA (4*(i.tmod 2)))+4)).toNat)) fun Ns r =>
   bif r then
   let row:=(sa++([Ns]))
   aK (bg row) <|
   eX n v q0 m (aA (i+1)) row
   else
   let cg:=(sa++([nj]))
   aK (bg cg) <|
   eX n v q0 m (aA (i+1)) cg
  else
  let fw:=(sa++([nj]))
  aK (bg fw) <|
  eX n v q0 m (aA (i+1)) fw
  else
  q0 sa
def gE (n:Nat) (v:List ByteArray) (q0:(List Block)->Option R):Nat->Int->(List Block)->Option R
 | 0,_,_=>none
 | m+1,i,C4 =>
  bif (decide (i<16)) then
  aK (aZ (aA (5+i)) v.length) <|
  pX n (v.getD ((aA (5+i)).toNat) eS) fun b r =>
  let row:=(C4++([b]))
  aK (bg row) <|
  gE n v q0 m (aA (i+1)) row
  else
  q0 C4
def oX (n:Nat) (d:Device) (k0:aa->Bool->Option R):Option R :=
 oG n d fun r =>
 bif !r then
  k0 ⟨⟨[],[]⟩,[],[]⟩ false
 else
 aK (aZ 0 d.cA.length) <|
 qN n (d.cA.getD 0 eS) fun b cS =>
 bif !cS then
  mb fun xT =>
  jE (fun v =>
  iD (fun eM =>
   eX n d.cA (fun dz =>
   gE n d.cA (fun gr =>
    k0 ⟨⟨v,eM⟩,dz,gr⟩ true) n 0 ([])) n 0 ([])) n 0 xT.bF) n 0 xT.ab
 else
 eX n d.cA (fun jk =>
  gE n d.cA (fun lW =>
  k0 ⟨b,jk,lW⟩ true) n 0 ([])) n 0 ([])
def uM (n:Nat) (d:aa) (k0:aa->Option R):Option R:=none
def uP (n:Nat) (d:Device) (k0:Fs->Bool->Option R):Option R:=none
def oP (n:Nat) (d:aa) (k0:(List Node)->Option R):Option R:=none
def uj (n:Nat) (e:Event) (w:World) (k0:World->Option R):Option R :=
 ql n w.Fs.Mem e fun xm r cS =>
 bif cS then
  bif (r==0) then
  lA n w.Model e fun dT =>
  bif (e.Kind==6) then
   il n ⟨xm,w.Fs.Device⟩ e.At fun f lq =>
   let row:=(([])++w.jv)
   aK (bg row) <|
   let cg:=(row++([r]))
   aK (bg cg) <|
   k0 ⟨f,dT,cg,w.Kept⟩
  else
  bif (e.Kind==7) then
   pC n ⟨xm,w.Fs.Device⟩ fun NV =>
   let fw:=(([])++dT)
   aK (bg fw) <|
   let z8:=(([])++w.jv)
   aK (bg z8) <|
   let Uy:=(z8++([r]))
   aK (bg Uy) <|
   k0 ⟨NV,dT,Uy,fw⟩
  else
  bif (e.Kind==8) then
   oX n w.Fs.Device fun d mG =>
   uM n d fun z7 =>
   kN n z7 fun YV uV =>
   bif uV then
   uP n YV fun Z2 AH =>
   oP n Z2.Mem.aa fun uR =>
   let UL:=(([])++uR)
   aK (bg UL) <|
   let UE:=(([])++w.jv)
   aK (bg UE) <|
   let Uw:=(UE++([r]))
   aK (bg Uw) <|
   k0 ⟨Z2,uR,Uw,UL⟩
   else
   oP n xm.aa fun EH =>
   let T7:=(([])++EH)
   aK (bg T7) <|
   let Uk:=(([])++w.jv)
   aK (bg Uk) <|
   let QY:=(Uk++([r]))
   aK (bg QY) <|
   k0 ⟨⟨xm,w.Fs.Device⟩,EH,QY,T7⟩
  else
  let QG:=(([])++w.jv)
  aK (bg QG) <|
  let Q1:=(QG++([r]))
  aK (bg Q1) <|
  k0 ⟨⟨xm,w.Fs.Device⟩,dT,Q1,w.Kept⟩
  else
  bif (e.Kind==6) then
  il n ⟨xm,w.Fs.Device⟩ e.At fun f_3 LB =>
  let Qf:=(([])++w.jv)
  aK (bg Qf) <|
  let Q8:=(Qf++([r]))
  aK (bg Q8) <|
  k0 ⟨f_3,w.Model,Q8,w.Kept⟩
  else
  bif (e.Kind==7) then
  pC n ⟨xm,w.Fs.Device⟩ fun f_4 =>
  let Qn:=(([])++w.Model)
  aK (bg Qn) <|
  let QR:=(([])++w.jv)
  aK (bg QR) <|
  let QS:=(QR++([r]))
  aK (bg QS) <|
  k0 ⟨f_4,w.Model,QS,Qn⟩
  else
  bif (e.Kind==8) then
  oX n w.Fs.Device fun d_3 nD =>
  uM n d_3 fun d_4 =>
  kN n d_4 fun d_5 DA =>
  bif DA then
   uP n d_5 fun f_5 Nm =>
   oP n f_5.Mem.aa fun Ki =>
   let QD:=(([])++Ki)
   aK (bg QD) <|
   let QX:=(([])++w.jv)
   aK (bg QX) <|
   let QN:=(QX++([r]))
   aK (bg QN) <|
   k0 ⟨f_5,Ki,QN,QD⟩
  else
  oP n xm.aa fun Nn =>
  let Ql:=(([])++Nn)
  aK (bg Ql) <|
  let QH:=(([])++w.jv)
  aK (bg QH) <|
  let QW:=(QH++([r]))
  aK (bg QW) <|
  k0 ⟨⟨xm,w.Fs.Device⟩,Nn,QW,Ql⟩
  else
  let Qu:=(([])++w.jv)
  aK (bg Qu) <|
  let QZ:=(Qu++([r]))
  aK (bg QZ) <|
  k0 ⟨⟨xm,w.Fs.Device⟩,w.Model,QZ,w.Kept⟩
 else
 bif (e.Kind==6) then
  il n w.Fs e.At fun f_6 TC =>
  let QV:=(([])++w.jv)
  aK (bg QV) <|
  let QC:=(QV++([r]))
  aK (bg QC) <|
  k0 ⟨f_6,w.Model,QC,w.Kept⟩
 else
 bif (e.Kind==7) then
  pC n w.Fs fun f_7 =>
  let Qq:=(([])++w.Model)
  aK (bg Qq) <|
  let Q3:=(([])++w.jv)
  aK (bg Q3) <|
  let QQ:=(Q3++([r]))
  aK (bg QQ) <|
  k0 ⟨f_7,w.Model,QQ,Qq⟩
 else
 bif (e.Kind==8) then
  oX n w.Fs.Device fun d_6 Th =>
  uM n d_6 fun d_7 =>
  kN n d_7 fun d_8 Ka =>
  bif Ka then
  uP n d_8 fun f_8 YH =>
  oP n f_8.Mem.aa fun TH =>
  let Qx:=(([])++TH)
  aK (bg Qx) <|
  let Q7:=(([])++w.jv)
  aK (bg Q7) <|
  let Q0:=(Q7++([r]))
  aK (bg Q0) <|
  k0 ⟨f_8,TH,Q0,Qx⟩
  else
  oP n w.Fs.Mem.aa fun Qv =>
  let Qd:=(([])++Qv)
  aK (bg Qd) <|
  let QU:=(([])++w.jv)
  aK (bg QU) <|
  let QL:=(QU++([r]))
  aK (bg QL) <|
  k0 ⟨w.Fs,Qv,QL,Qd⟩
 else
 let Q9:=(([])++w.jv)
 aK (bg Q9) <|
 let Ra:=(Q9++([r]))
 aK (bg Ra) <|
 k0 ⟨w.Fs,w.Model,Ra,w.Kept⟩
def mq (n:Nat) (b:List UInt8) (q0:Int->Int->Int->(List Bool)->(List Bool)->(List aV)->(List Block)->(List Bool)->(List bG)->(List ByteArray)->(List Node)->(List Int)->(List Node)->Option R):Nat->Int->Int->Int->Int->(List Bool)->(List Bool)->(List aV)->(List Block)->(List Bool)->(List bG)->(List ByteArray)->(List Node)->(List Int)->(List Node)->Option R
 | 0,_,_,_,_,_,_,_,_,_,_,_,_,_,_=>none
 | m+1,i,nj,xh,eM,rM,dQ,ph,ic,fV,An,sq,Kg,Ia,wk =>
  aE 24 ⟨b,nj,xh⟩ fun r lo =>
  bif (decide (i<(aA (4+r)))) then
  eE n ⟨⟨⟨⟨⟨rM,dQ⟩,ph,ic⟩,fV,An,eM⟩,⟨sq⟩⟩,Kg,Ia,wk⟩ ⟨b,lo.i,lo.h⟩ fun e bU =>
  uj n e ⟨⟨⟨⟨⟨rM,dQ⟩,ph,ic⟩,fV,An,eM⟩,⟨sq⟩⟩,Kg,Ia,wk⟩ fun wo =>
  mq n b q0 m (aA (i+1)) bU.i bU.h wo.Fs.Mem.Next wo.Fs.Mem.aa.au.ab wo.Fs.Mem.aa.au.bF wo.Fs.Mem.aa.ad wo.Fs.Mem.aa.ab wo.Fs.Mem.an wo.Fs.Mem.ae wo.Fs.Device.cA wo.Model wo.jv wo.Kept
  else
  q0 lo.i lo.h eM rM dQ ph ic fV An sq Kg Ia wk
def wI (n:Nat) (c:eF) (k0:Fs->eF->Option R):Option R :=
 Av n fun f =>
 mq n c.b (fun i xh v eM dz gr jk lW ia sa C4 rM dQ =>
  k0 ⟨⟨⟨⟨eM,dz⟩,gr,jk⟩,lW,ia,v⟩,⟨sa⟩⟩ ⟨c.b,i,xh⟩) n 0 c.i c.h f.Mem.Next f.Mem.aa.au.ab f.Mem.aa.au.bF f.Mem.aa.ad f.Mem.aa.ab f.Mem.an f.Mem.ae f.Device.cA ([]) ([]) ([])
def xF (n:Nat) (c:eF) (k0:Mem->eF->Option R):Option R :=
 wI n c fun f lo =>
 k0 f.Mem ⟨c.b,lo.i,lo.h⟩
def mh (c:eF) (k0:aV->eF->Option R):Option R :=
 let lit:=([0,1,2]:List Int)
 dE lit c fun r lo =>
 ey r fun i =>
 bif (!(i.Kind==0)) then
  aE 4 ⟨c.b,lo.i,lo.h⟩ fun cS bU =>
  aE 17 ⟨c.b,bU.i,bU.h⟩ fun dT bR =>
  aK (aZ 0 i.ay.length) <|
  let row:=(i.ay.set 0 dT)
  aE 17 ⟨c.b,bR.i,bR.h⟩ fun lq ln =>
  let tQ:=([0,0,lq]:List Int)
  dE tQ ⟨c.b,ln.i,ln.h⟩ fun mG qc =>
  aK (aZ 1 row.length) <|
  let cg:=(row.set 1 mG)
  k0 ⟨i.Kind,cS,cg⟩ ⟨c.b,qc.i,qc.h⟩
 else
 k0 i ⟨c.b,lo.i,lo.h⟩
def iv (xn:Int) (b:List UInt8) (q0:Int->Int->(List UInt8)->Option R):Nat->Int->Int->Int->(List UInt8)->Option R
 | 0,_,_,_,_=>none
 | m+1,i,nj,xh,out =>
  bif (decide (i<xn)) then
  iS ⟨b,nj,xh⟩ fun r lo =>
  aK (kt (IntKind.u8.wrap (r))&&true) <|
  let row:=(out++([(UInt8.ofNat ((IntKind.u8.wrap (r)).toNat))]))
  aK (bg row) <|
  iv xn b q0 m (aA (i+1)) lo.i lo.h row
  else
  q0 nj xh out
def qp (n:Nat) (xn:Int) (c:eF) (k0:ByteArray->eF->Option R):Option R :=
 bif (decide (5000<xn)) then
  iv 5000 c.b (fun i xh out =>
  k0 (zm out) ⟨c.b,i,xh⟩) n 0 c.i c.h ([])
 else
 iv xn c.b (fun nj Qh CU =>
  k0 (zm CU) ⟨c.b,nj,Qh⟩) n 0 c.i c.h ([])
def dZ (n:Nat) (dz:Bool) (gr:ByteArray) (b:List UInt8) (q0:Int->Int->(List Slot)->Option R):Nat->Int->Int->Int->(List Slot)->Option R
 | 0,_,_,_,_=>none
 | m+1,i,nj,xh,lW =>
  bif (decide (i<4)) then
  qz ⟨b,nj,xh⟩ fun r lo =>
  aE 8 ⟨b,lo.i,lo.h⟩ fun cS bU =>
  qm n ⟨dz,lW,gr⟩ r fun dT =>
  cO 2 ⟨b,bU.i,bU.h⟩ fun lq bR =>
  let z:=bif (decide (dT<0)) then lq else false
  let uW:=bif (decide (dT<0)) then bR.i else bU.i
  let Ai:=bif (decide (dT<0)) then bR.h else bU.h
  bif (decide (dT<0))&&z then
   aK (aZ i lW.length) <|
   let row:=(lW.set i.toNat ⟨r,(aA (1+cS))⟩)
   dZ n dz gr b q0 m (aA (i+1)) uW Ai row
  else
  dZ n dz gr b q0 m (aA (i+1)) uW Ai lW
  else
  q0 nj xh lW
def l6 (n:Nat) (c:eF) (k0:Block->eF->Option R):Option R :=
 cO 2 c fun r lo =>
 bif r then
  aE 17 ⟨c.b,lo.i,lo.h⟩ fun cS bU =>
  qp n cS ⟨c.b,bU.i,bU.h⟩ fun dT bR =>
  k0 ⟨false,[],dT⟩ ⟨c.b,bR.i,bR.h⟩
 else
 sT fun b =>
 dZ n b.cf b.Text c.b (fun i xh v =>
  k0 ⟨b.cf,v,b.Text⟩ ⟨c.b,i,xh⟩) n 0 lo.i lo.h b.ah
def fB (b:List UInt8) (q0:Int->Int->(List aV)->Option R):Nat->Int->Int->Int->(List aV)->Option R
 | 0,_,_,_,_=>none
 | m+1,i,nj,xh,ia =>
  bif (decide (i<8)) then
  cO 2 ⟨b,nj,xh⟩ fun r lo =>
  bif r then
   mh ⟨b,lo.i,lo.h⟩ fun Ns bU =>
   aK (aZ i ia.length) <|
   let row:=(ia.set i.toNat Ns)
   fB b q0 m (aA (i+1)) bU.i bU.h row
  else
  fB b q0 m (aA (i+1)) lo.i lo.h ia
  else
  q0 nj xh ia
def fA (n:Nat) (b:List UInt8) (q0:Int->Int->(List Block)->Option R):Nat->Int->Int->Int->(List Block)->Option R
 | 0,_,_,_,_=>none
 | m+1,i,nj,xh,sa =>
  bif (decide (i<16)) then
  cO 2 ⟨b,nj,xh⟩ fun r lo =>
  bif r then
   l6 n ⟨b,lo.i,lo.h⟩ fun xT bU =>
   aK (aZ i sa.length) <|
   let row:=(sa.set i.toNat xT)
   fA n b q0 m (aA (i+1)) bU.i bU.h row
  else
  fA n b q0 m (aA (i+1)) lo.i lo.h sa
  else
  q0 nj xh sa
def gP (b:List UInt8) (q0:Int->Int->(List Bool)->Option R):Nat->Int->Int->Int->(List Bool)->Option R
 | 0,_,_,_,_=>none
 | m+1,i,nj,xh,jk =>
  bif (decide (i<16)) then
  cO 2 ⟨b,nj,xh⟩ fun r lo =>
  aK (aZ i jk.length) <|
  let row:=(jk.set i.toNat r)
  gP b q0 m (aA (i+1)) lo.i lo.h row
  else
  q0 nj xh jk
def gQ (b:List UInt8) (ia:List aV) (q0:Int->Int->(List Block)->Option R):Nat->Int->Int->Int->(List Block)->Option R
 | 0,_,_,_,_=>none
 | m+1,i,nj,xh,sa =>
  bif (decide (i<4)) then
  aK (aZ 0 ia.length) <|
  aK (aZ 0 (((ia.getD 0 az).ay).length)) <|
  aK (aZ (aA ((((ia.getD 0 az).ay).getD 0 0)-1)) sa.length) <|
  let lit:=([S [112],S [113],S [114],S [115]]:List ByteArray)
  aK (aZ i lit.length) <|
  aE 8 ⟨b,nj,xh⟩ fun r lo =>
  aK (aZ i (((sa.getD ((aA ((((ia.getD 0 az).ay).getD 0 0)-1)).toNat) aC).ah).length)) <|
  let row:=(sa.set ((aA ((((ia.getD 0 az).ay).getD 0 0)-1)).toNat) ⟨(sa.getD ((aA ((((ia.getD 0 az).ay).getD 0 0)-1)).toNat) aC).cf,(((sa.getD ((aA ((((ia.getD 0 az).ay).getD 0 0)-1)).toNat) aC).ah).set i.toNat ⟨(lit.getD i.toNat eS),(aA (1+r))⟩),(sa.getD ((aA ((((ia.getD 0 az).ay).getD 0 0)-1)).toNat) aC).Text⟩)
  gQ b ia q0 m (aA (i+1)) lo.i lo.h row
  else
  q0 nj xh sa
def qs (n:Nat) (c:eF) (k0:aa->eF->Option R):Option R :=
 od n fun d =>
 fB c.b (fun i xh v =>
  fA n c.b (fun nj Qh eM =>
  gP c.b (fun Ns acP dz =>
   cO 6 ⟨c.b,Ns,acP⟩ fun r lo =>
   bif !r then
   aE 16 ⟨c.b,lo.i,lo.h⟩ fun cS bU =>
   aE 17 ⟨c.b,bU.i,bU.h⟩ fun dT bR =>
   let lit:=([(aA (1+cS)),dT]:List Int)
   aK (aZ 0 v.length) <|
   let row:=(v.set 0 ⟨2,1,lit⟩)
   aK (aZ 0 row.length) <|
   aK (aZ 0 (((row.getD 0 az).ay).length)) <|
   sT fun b =>
   aK (aZ (aA ((((row.getD 0 az).ay).getD 0 0)-1)) eM.length) <|
   let cg:=(eM.set ((aA ((((row.getD 0 az).ay).getD 0 0)-1)).toNat) b)
   gQ c.b row (fun i_3 ac1 gr =>
    k0 ⟨⟨dz,d.au.bF⟩,row,gr⟩ ⟨c.b,i_3,ac1⟩) n 0 bR.i bR.h cg
   else
   k0 ⟨⟨dz,d.au.bF⟩,v,eM⟩ ⟨c.b,lo.i,lo.h⟩) n 0 nj Qh d.au.ab) n 0 i xh d.ab) n 0 c.i c.h d.ad
def ot (n:Nat) (c:eF) (k0:aa->eF->Option R):Option R :=
 cO 3 c fun r lo =>
 bif r then
  qs n ⟨c.b,lo.i,lo.h⟩ fun d bU =>
  k0 d ⟨c.b,bU.i,bU.h⟩
 else
 wI n ⟨c.b,lo.i,lo.h⟩ fun f bR =>
 cO 2 ⟨c.b,bR.i,bR.h⟩ fun cS ln =>
 bif cS then
  jU n f.Mem.aa fun z7 =>
  k0 z7 ⟨c.b,ln.i,ln.h⟩
 else
 oX n f.Device fun YV dT =>
 k0 YV ⟨c.b,ln.i,ln.h⟩
def iB (b:List UInt8) (q0:Int->Int->(List Bool)->Option R):Nat->Int->Int->Int->(List Bool)->Option R
 | 0,_,_,_,_=>none
 | m+1,i,nj,xh,dz =>
  bif (decide (i<(dz.length:Int))) then
  cO 2 ⟨b,nj,xh⟩ fun r lo =>
  aK (aZ i dz.length) <|
  let row:=(dz.set i.toNat r)
  iB b q0 m (aA (i+1)) lo.i lo.h row
  else
  q0 nj xh dz
def iE (b:List UInt8) (q0:Int->Int->(List Bool)->Option R):Nat->Int->Int->Int->(List Bool)->Option R
 | 0,_,_,_,_=>none
 | m+1,i,nj,xh,gr =>
  bif (decide (i<(gr.length:Int))) then
  cO 2 ⟨b,nj,xh⟩ fun r lo =>
  aK (aZ i gr.length) <|
  let row:=(gr.set i.toNat r)
  iE b q0 m (aA (i+1)) lo.i lo.h row
  else
  q0 nj xh gr
def uo (n:Nat) (c:eF) (k0:au->eF->Option R):Option R :=
 mb fun b =>
 iB c.b (fun i xh v =>
  iE c.b (fun nj Qh eM =>
  cO 10 ⟨c.b,nj,Qh⟩ fun r lo =>
  bif r then
   aK (qh 1 v.length) <|
   cO 10 ⟨c.b,lo.i,lo.h⟩ fun cS bU =>
   bif cS then
   let row:=(eM++([true]))
   aK (bg row) <|
   k0 ⟨(sub v 1 (v.length-1)),row⟩ ⟨c.b,bU.i,bU.h⟩
   else
   k0 ⟨(sub v 1 (v.length-1)),eM⟩ ⟨c.b,bU.i,bU.h⟩
  else
  cO 10 ⟨c.b,lo.i,lo.h⟩ fun dT bR =>
  bif dT then
   let cg:=(eM++([true]))
   aK (bg cg) <|
   k0 ⟨v,cg⟩ ⟨c.b,bR.i,bR.h⟩
  else
  k0 ⟨v,eM⟩ ⟨c.b,bR.i,bR.h⟩) n 0 i xh b.bF) n 0 c.i c.h b.ab
def nf (c:eF) (k0:aV->eF->Option R):Option R :=
 mh c fun i lo =>
 aE 12 ⟨c.b,lo.i,lo.h⟩ fun r bU =>
 bif (r==0) then
  let lit:=([-1,0,3]:List Int)
  dE lit ⟨c.b,bU.i,bU.h⟩ fun cS bR =>
  k0 ⟨cS,i.Links,i.ay⟩ ⟨c.b,bR.i,bR.h⟩
 else
 bif (r==1) then
  let tQ:=([-1,0,200,201]:List Int)
  dE tQ ⟨c.b,bU.i,bU.h⟩ fun dT ln =>
  k0 ⟨i.Kind,dT,i.ay⟩ ⟨c.b,ln.i,ln.h⟩
 else
 bif (r==2) then
  let Qe:=([-1,16,17]:List Int)
  dE Qe ⟨c.b,bU.i,bU.h⟩ fun lq qc =>
  aK (aZ 0 i.ay.length) <|
  let row:=(i.ay.set 0 lq)
  k0 ⟨i.Kind,i.Links,row⟩ ⟨c.b,qc.i,qc.h⟩
 else
 bif (r==3) then
  aK (qh 1 i.ay.length) <|
  k0 ⟨i.Kind,i.Links,(sub i.ay 1 (i.ay.length-1))⟩ ⟨c.b,bU.i,bU.h⟩
 else
 k0 i ⟨c.b,bU.i,bU.h⟩
def jT (xn:Int) (x:Int) (q0:(List UInt8)->Option R):Nat->Int->(List UInt8)->Option R
 | 0,_,_=>none
 | m+1,i,out =>
  bif (decide (i<xn)) then
  aK (aZ i out.length) <|
  let row:=(out.set i.toNat (UInt8.ofNat x.toNat))
  aK (kt x) <|
  jT xn x q0 m (aA (i+1)) row
  else
  q0 out
def uh (n:Nat) (xn:Int) (x:Int) (k0:ByteArray->Option R):Option R :=
 aK (Yg xn xn) <|
 jT xn x (fun out =>
  k0 (zm out)) n 0 (List.replicate xn.toNat 0)
def kx (n:Nat) (c:eF) (k0:Block->eF->Option R):Option R :=
 l6 n c fun b lo =>
 mr b fun xT =>
 aE 12 ⟨c.b,lo.i,lo.h⟩ fun r bU =>
 bif (r==0) then
  k0 ⟨!xT.cf,xT.ah,xT.Text⟩ ⟨c.b,bU.i,bU.h⟩
 else
 bif (r==1) then
  aE 2 ⟨c.b,bU.i,bU.h⟩ fun cS bR =>
  uh n (aA (16+cS)) 65 fun dT =>
  k0 ⟨xT.cf,xT.ah,dT⟩ ⟨c.b,bR.i,bR.h⟩
 else
 bif (r==2) then
  bif (decide (0<(xT.ah.length:Int))) then
  let lit:=([-1,0,8,9]:List Int)
  dE lit ⟨c.b,bU.i,bU.h⟩ fun lq ln =>
  aK (aZ 1 xT.ah.length) <|
  let row:=(xT.ah.set 1 ⟨(xT.ah.getD 1 aq).Name,lq⟩)
  k0 ⟨xT.cf,row,xT.Text⟩ ⟨c.b,ln.i,ln.h⟩
  else
  k0 xT ⟨c.b,bU.i,bU.h⟩
 else
 bif (r==3) then
  bif (decide (0<(xT.ah.length:Int))) then
  let tQ:=([eS,S [65],S [97],S [97,98,99,100,101,102,103]]:List ByteArray)
  fR tQ ⟨c.b,bU.i,bU.h⟩ fun mG qc =>
  aK (aZ 0 xT.ah.length) <|
  let cg:=(xT.ah.set 0 ⟨mG,(xT.ah.getD 0 aq).Ino⟩)
  k0 ⟨xT.cf,cg,xT.Text⟩ ⟨c.b,qc.i,qc.h⟩
  else
  k0 xT ⟨c.b,bU.i,bU.h⟩
 else
 k0 xT ⟨c.b,bU.i,bU.h⟩
def mV (n:Nat) (c:eF) (k0:aa->eF->Option R):Option R :=
 ot n c fun d lo =>
 jU n d fun z7 =>
 aE 12 ⟨c.b,lo.i,lo.h⟩ fun r bU =>
 bif (r==0) then
  uo n ⟨c.b,bU.i,bU.h⟩ fun b bR =>
  k0 ⟨b,z7.ad,z7.ab⟩ ⟨c.b,bR.i,bR.h⟩
 else
 bif (r==1) then
  aE 8 ⟨c.b,bU.i,bU.h⟩ fun cS ln =>
  nf ⟨c.b,ln.i,ln.h⟩ fun i qc =>
  aK (aZ cS z7.ad.length) <|
  let row:=(z7.ad.set cS.toNat i)
  k0 ⟨z7.au,row,z7.ab⟩ ⟨c.b,qc.i,qc.h⟩
 else
 bif (r==2) then
  aE 16 ⟨c.b,bU.i,bU.h⟩ fun dT CY =>
  kx n ⟨c.b,CY.i,CY.h⟩ fun xT CV =>
  aK (aZ dT z7.ab.length) <|
  let cg:=(z7.ab.set dT.toNat xT)
  k0 ⟨z7.au,z7.ad,cg⟩ ⟨c.b,CV.i,CV.h⟩
 else
 bif (r==3) then
  aK (qh 1 z7.ad.length) <|
  k0 ⟨z7.au,(sub z7.ad 1 (z7.ad.length-1)),z7.ab⟩ ⟨c.b,bU.i,bU.h⟩
 else
 k0 z7 ⟨c.b,bU.i,bU.h⟩
def jm (n:Nat) (c:eF) (k0:Mem->eF->Option R):Option R :=
 xF n c fun xm lo =>
 dB n xm fun aR =>
 aE 16 ⟨c.b,lo.i,lo.h⟩ fun r bU =>
 bif (r==0) then
  mV n ⟨c.b,bU.i,bU.h⟩ fun d bR =>
  k0 ⟨d,aR.an,aR.ae,aR.Next⟩ ⟨c.b,bR.i,bR.h⟩
 else
 bif (r==1) then
  aK (qh 1 aR.an.length) <|
  k0 ⟨aR.aa,(sub aR.an 1 (aR.an.length-1)),aR.ae,aR.Next⟩ ⟨c.b,bU.i,bU.h⟩
 else
 bif (r==2) then
  let lit:=([0,1,100000,100001]:List Int)
  dE lit ⟨c.b,bU.i,bU.h⟩ fun cS ln =>
  k0 ⟨aR.aa,aR.an,aR.ae,cS⟩ ⟨c.b,ln.i,ln.h⟩
 else
 bif (r==3) then
  bif (decide (0<(aR.ae.length:Int))) then
  aE (aR.ae.length:Int) ⟨c.b,bU.i,bU.h⟩ fun dT qc =>
  aE 7 ⟨c.b,qc.i,qc.h⟩ fun lq CY =>
  aK (aZ dT aR.ae.length) <|
  let row:=(aR.ae.set dT.toNat ⟨(aR.ae.getD dT.toNat aJ).Id,lq,(aR.ae.getD dT.toNat aJ).Ino,(aR.ae.getD dT.toNat aJ).Ptr,(aR.ae.getD dT.toNat aJ).Block,(aR.ae.getD dT.toNat aJ).Slot,(aR.ae.getD dT.toNat aJ).Name,(aR.ae.getD dT.toNat aJ).au,(aR.ae.getD dT.toNat aJ).eJ,(aR.ae.getD dT.toNat aJ).bx,(aR.ae.getD dT.toNat aJ).ab⟩)
  let tQ:=([-1,0,3,16,17]:List Int)
  dE tQ ⟨c.b,CY.i,CY.h⟩ fun mG CV =>
  aK (aZ dT row.length) <|
  let cg:=(row.set dT.toNat ⟨(row.getD dT.toNat aJ).Id,(row.getD dT.toNat aJ).Kind,(row.getD dT.toNat aJ).Ino,(row.getD dT.toNat aJ).Ptr,mG,(row.getD dT.toNat aJ).Slot,(row.getD dT.toNat aJ).Name,(row.getD dT.toNat aJ).au,(row.getD dT.toNat aJ).eJ,(row.getD dT.toNat aJ).bx,(row.getD dT.toNat aJ).ab⟩)
  k0 ⟨aR.aa,aR.an,cg,aR.Next⟩ ⟨c.b,CV.i,CV.h⟩
  else
  k0 aR ⟨c.b,bU.i,bU.h⟩
 else
 bif (r==4) then
  bif (decide (0<(aR.ae.length:Int))) then
  aK (aZ 0 aR.ae.length) <|
  let el:=(aR.ae.getD 0 aJ)
  let fw:=(aR.ae++([el]))
  aK (bg fw) <|
  k0 ⟨aR.aa,aR.an,fw,aR.Next⟩ ⟨c.b,bU.i,bU.h⟩
  else
  k0 aR ⟨c.b,bU.i,bU.h⟩
 else
 k0 aR ⟨c.b,bU.i,bU.h⟩
def fo (ZE:List UInt8) (q0:Int->Int->(List bG)->Option R):Nat->Int->Int->(List bG)->Option R
 | 0,_,_,_=>none
 | m+1,ic,fV,V9 =>
  aE 2 ⟨ZE,ic,fV⟩ fun r lo =>
  bif (decide ((V9.length:Int)<(aA (39+r)))) then
  let row:=(V9++([⟨0,5,2,0,0,0,eS,false,false,0,[]⟩]))
  aK (bg row) <|
  fo ZE q0 m lo.i lo.h row
  else
  q0 lo.i lo.h V9
def lK (n:Nat) (code:List UInt8) (k0:Mem->bG->Option R):Option R :=
 xB n code fun l =>
 jm n l fun xm lo =>
 cO 8 ⟨l.b,lo.i,lo.h⟩ fun r bU =>
 bif r then
  fo l.b (fun v eM dz =>
  aE 5 ⟨l.b,v,eM⟩ fun cS bR =>
  aE 8 ⟨l.b,bR.i,bR.h⟩ fun dT ln =>
  aE 9 ⟨l.b,ln.i,ln.h⟩ fun lq qc =>
  let lit:=([1,2]:List Int)
  k0 ⟨xm.aa,xm.an,dz,xm.Next⟩ ⟨0,(aA (1+cS)),(aA (1+dT)),0,lq,0,eS,false,false,0,lit⟩) n bU.i bU.h xm.ae
 else
 aE 5 ⟨l.b,bU.i,bU.h⟩ fun mG CY =>
 aE 8 ⟨l.b,CY.i,CY.h⟩ fun uV CV =>
 aE 9 ⟨l.b,CV.i,CV.h⟩ fun AH Wn =>
 let tQ:=([1,2]:List Int)
 k0 xm ⟨0,(aA (1+mG)),(aA (1+uV)),0,AH,0,eS,false,false,0,tQ⟩
def kX (l:List Bool) (k0:(List Bool)->Option R):Option R :=
 let row:=(([])++l)
 aK (bg row) <|
 k0 row
def rF (b:au) (k0:au->Option R):Option R :=
 kX b.ab fun r =>
 kX b.bF fun cS =>
 k0 ⟨r,cS⟩
def mn (l:List Int) (k0:(List Int)->Option R):Option R :=
 let row:=(([])++l)
 aK (bg row) <|
 k0 row
def pt (x:aV) (k0:aV->Option R):Option R :=
 mn x.ay fun r =>
 k0 ⟨x.Kind,x.Links,r⟩
def px (b:Block) (k0:Block->Option R):Option R :=
 let row:=(([])++b.ah)
 aK (bg row) <|
 k0 ⟨b.cf,row,b.Text⟩
def iW (x:Int) (qf:List aV) (q0:(List aV)->Option R):Nat->Int->(List aV)->Option R
 | 0,_,_=>none
 | m+1,eH,dQ =>
  bif (decide (eH<x)) then
  aK (aZ eH qf.length) <|
  let el:=(qf.getD eH.toNat az)
  pt el fun i =>
  let row:=(dQ++([i]))
  aK (bg row) <|
  iW x qf q0 m (aA (eH+1)) row
  else
  q0 dQ
def fO (x:Int) (qf:List Block) (q0:(List Block)->Option R):Nat->Int->(List Block)->Option R
 | 0,_,_=>none
 | m+1,eH,sa =>
  bif (decide (eH<x)) then
  aK (aZ eH qf.length) <|
  let el:=(qf.getD eH.toNat aC)
  px el fun b =>
  let row:=(sa++([b]))
  aK (bg row) <|
  fO x qf q0 m (aA (eH+1)) row
  else
  q0 sa
def qB (n:Nat) (d:aa) (k0:aa->Option R):Option R :=
 rF d.au fun b =>
 iW (d.ad.length:Int) d.ad (fun v =>
  fO (d.ab.length:Int) d.ab (fun eM =>
  k0 ⟨b,v,eM⟩) n 0 ([])) n 0 ([])
def oa (d:bG) (k0:bG->Option R):Option R :=
 mn d.ab fun r =>
 k0 ⟨d.Id,d.Kind,d.Ino,d.Ptr,d.Block,d.Slot,d.Name,d.au,d.eJ,d.bx,r⟩
def iR (x:Int) (qf:List bG) (q0:(List bG)->Option R):Nat->Int->(List bG)->Option R
 | 0,_,_=>none
 | m+1,eH,out =>
  bif (decide (eH<x)) then
  aK (aZ eH qf.length) <|
  let el:=(qf.getD eH.toNat aJ)
  oa el fun d =>
  let row:=(out++([d]))
  aK (bg row) <|
  iR x qf q0 m (aA (eH+1)) row
  else
  q0 out
def qZ (n:Nat) (l:List bG) (k0:(List bG)->Option R):Option R :=
 iR (l.length:Int) l (fun out =>
  k0 out) n 0 ([])
def qA (n:Nat) (xm:Mem) (k0:Mem->Option R):Option R :=
 qB n xm.aa fun d =>
 kX xm.an fun r =>
 qZ n xm.ae fun cS =>
 k0 ⟨d,r,cS,xm.Next⟩
def dL (xn:Int) (low:Int) (high:Int) (k0:Bool->Option R):Option R :=
 k0 ((decide (low<=xn))&&(decide (xn<=high)))
def BI (xm:Mem) (k0:Bool->Option R):Option R :=
 dL xm.Next 1 99999 fun r =>
 let z:=bif (decide ((xm.ae.length:Int)<40)) then r else false
 k0 ((decide ((xm.ae.length:Int)<40))&&z)
def uE (d:bG) (xm:Mem) (k0:Int->Mem->Option R):Option R :=
 BI xm fun r =>
 bif !r then
  k0 0 xm
 else
 oa ⟨xm.Next,d.Kind,d.Ino,d.Ptr,d.Block,d.Slot,d.Name,d.au,d.eJ,d.bx,d.ab⟩ fun z7 =>
 let row:=(xm.ae++([z7]))
 aK (bg row) <|
 k0 xm.Next ⟨xm.aa,xm.an,row,(aA (xm.Next+1))⟩
def xQ (n:Nat) (xm:Mem) (d:bG) (k0:Mem->Int->Option R):Option R :=
 qA n xm fun aR =>
 uE d aR fun r mo =>
 k0 ⟨aR.aa,aR.an,mo.ae,mo.Next⟩ r
def fk (a:List Bool) (b:List Bool) (q0:Bool->Option R) (q1:Option R):Nat->Int->Option R
 | 0,_=>none
 | m+1,i =>
  bif (decide (i<(a.length:Int))) then
  aK (aZ i a.length) <|
  aK (aZ i b.length) <|
  bif !((a.getD i.toNat false)==(b.getD i.toNat false)) then
   q0 false
  else
  fk a b q0 q1 m (aA (i+1))
  else
  q1
def jn (n:Nat) (a:List Bool) (b:List Bool) (k0:Bool->Option R):Option R :=
 bif (!((a.length:Int)==(b.length:Int))) then
  k0 false
 else
 fk a b (fun x =>
  k0 x) (
  k0 true) n 0
def j5 (jk:List Int) (lW:List Int) (q0:Bool->Option R) (q1:Option R):Nat->Int->Option R
 | 0,_=>none
 | m+1,i =>
  bif (decide (i<(jk.length:Int))) then
  aK (aZ i jk.length) <|
  aK (aZ i lW.length) <|
  bif (!((jk.getD i.toNat 0)==(lW.getD i.toNat 0))) then
   q0 false
  else
  j5 jk lW q0 q1 m (aA (i+1))
  else
  q1
def ub (n:Nat) (a:aV) (b:aV) (k0:Bool->Option R):Option R :=
 bif ((!(a.Kind==b.Kind))||(!(a.Links==b.Links)))||(!((a.ay.length:Int)==(b.ay.length:Int))) then
  k0 false
 else
 j5 a.ay b.ay (fun x =>
  k0 x) (
  k0 true) n 0
def jX (jk:List Slot) (lW:List Slot) (q0:Bool->Option R) (q1:Option R):Nat->Int->Option R
 | 0,_=>none
 | m+1,i =>
  bif (decide (i<(jk.length:Int))) then
  aK (aZ i jk.length) <|
  let el:=(jk.getD i.toNat aq)
  aK (aZ i lW.length) <|
  let kR:=(lW.getD i.toNat aq)
  bif !((el.Name==kR.Name)&&(el.Ino==kR.Ino)) then
   q0 false
  else
  jX jk lW q0 q1 m (aA (i+1))
  else
  q1
def uJ (n:Nat) (a:Block) (b:Block) (k0:Bool->Option R):Option R :=
 bif ((!(a.cf==b.cf))||(!(a.Text==b.Text)))||(!((a.ah.length:Int)==(b.ah.length:Int))) then
  k0 false
 else
 jX a.ah b.ah (fun x =>
  k0 x) (
  k0 true) n 0
def iO (n:Nat) (dz:List aV) (ia:List aV) (q0:Bool->Option R) (q1:Option R):Nat->Int->Option R
 | 0,_=>none
 | m+1,i =>
  bif (decide (i<(dz.length:Int))) then
  aK (aZ i dz.length) <|
  let el:=(dz.getD i.toNat az)
  aK (aZ i ia.length) <|
  let kR:=(ia.getD i.toNat az)
  ub n el kR fun r =>
  bif !r then
   q0 false
  else
  iO n dz ia q0 q1 m (aA (i+1))
  else
  q1
def fM (n:Nat) (gr:List Block) (sa:List Block) (q0:Bool->Option R) (q1:Option R):Nat->Int->Option R
 | 0,_=>none
 | m+1,i =>
  bif (decide (i<(gr.length:Int))) then
  aK (aZ i gr.length) <|
  let el:=(gr.getD i.toNat aC)
  aK (aZ i sa.length) <|
  let kR:=(sa.getD i.toNat aC)
  uJ n el kR fun r =>
  bif !r then
   q0 false
  else
  fM n gr sa q0 q1 m (aA (i+1))
  else
  q1
def rA (n:Nat) (a:aa) (b:aa) (k0:Bool->Option R):Option R :=
 jn n a.au.ab b.au.ab fun r =>
 jn n a.au.bF b.au.bF fun cS =>
 let z:=bif !(!r) then cS else false
 bif (((!r)||(!z))||(!((a.ad.length:Int)==(b.ad.length:Int))))||(!((a.ab.length:Int)==(b.ab.length:Int))) then
  k0 false
 else
 iO n a.ad b.ad (fun x =>
  k0 x) (
  fM n a.ab b.ab (fun eH =>
  k0 eH) (
  k0 true) n 0) n 0
def iU (a:List Int) (b:List Int) (q0:Bool->Option R) (q1:Option R):Nat->Int->Option R
 | 0,_=>none
 | m+1,i =>
  bif (decide (i<(a.length:Int))) then
  aK (aZ i a.length) <|
  aK (aZ i b.length) <|
  bif (!((a.getD i.toNat 0)==(b.getD i.toNat 0))) then
   q0 false
  else
  iU a b q0 q1 m (aA (i+1))
  else
  q1
def qG (n:Nat) (a:List Int) (b:List Int) (k0:Bool->Option R):Option R :=
 bif (!((a.length:Int)==(b.length:Int))) then
  k0 false
 else
 iU a b (fun x =>
  k0 x) (
  k0 true) n 0
def jL (ia:List Bool) (ic:List Bool) (q0:Bool->Option R) (q1:Option R):Nat->Int->Option R
 | 0,_=>none
 | m+1,i =>
  bif (decide (i<(ia.length:Int))) then
  aK (aZ i ia.length) <|
  aK (aZ i ic.length) <|
  bif !((ia.getD i.toNat false)==(ic.getD i.toNat false)) then
   q0 false
  else
  jL ia ic q0 q1 m (aA (i+1))
  else
  q1
def gL (n:Nat) (sa:List bG) (fV:List bG) (q0:Bool->Option R) (q1:Option R):Nat->Int->Option R
 | 0,_=>none
 | m+1,i =>
  bif (decide (i<(sa.length:Int))) then
  aK (aZ i sa.length) <|
  let el:=(sa.getD i.toNat aJ)
  aK (aZ i fV.length) <|
  let kR:=(fV.getD i.toNat aJ)
  qG n ((sa.getD i.toNat aJ).ab) ((fV.getD i.toNat aJ).ab) fun r =>
  let z:=bif !((((((((((!(el.Id==kR.Id))||(!(el.Kind==kR.Kind)))||(!(el.Ino==kR.Ino)))||(!(el.Ptr==kR.Ptr)))||(!(el.Block==kR.Block)))||(!(el.Slot==kR.Slot)))||(!(el.Name==kR.Name)))||(!(el.au==kR.au)))||(!(el.eJ==kR.eJ)))||(!(el.bx==kR.bx))) then r else false
  bif ((((((((((!(el.Id==kR.Id))||(!(el.Kind==kR.Kind)))||(!(el.Ino==kR.Ino)))||(!(el.Ptr==kR.Ptr)))||(!(el.Block==kR.Block)))||(!(el.Slot==kR.Slot)))||(!(el.Name==kR.Name)))||(!(el.au==kR.au)))||(!(el.eJ==kR.eJ)))||(!(el.bx==kR.bx)))||(!z) then
   q0 false
  else
  gL n sa fV q0 q1 m (aA (i+1))
  else
  q1
def om (n:Nat) (a:Mem) (b:Mem) (k0:Bool->Option R):Option R :=
 rA n a.aa b.aa fun r =>
 bif (((!r)||(!(a.Next==b.Next)))||(!((a.an.length:Int)==(b.an.length:Int))))||(!((a.ae.length:Int)==(b.ae.length:Int))) then
  k0 false
 else
 jL a.an b.an (fun x =>
  k0 x) (
  gL n a.ae b.ae (fun eH =>
  k0 eH) (
  k0 true) n 0) n 0
def lF (d:bG) (a:Int) (k0:Bool->Int->Option R):Option R :=
 k0 (d.Id==a) a
def bE (x:Int) (s:List bG) (q0:Int->Int->Option R) (q1:Int->Option R):Nat->Int->Int->Option R
 | 0,_,_=>none
 | m+1,eH,cap =>
  bif (decide (eH<x)) then
  aK (aZ eH s.length) <|
  let el:=(s.getD eH.toNat aJ)
  lF el cap fun r vo =>
  bif r then
   q0 eH vo
  else
  bE x s q0 q1 m (aA (eH+1)) vo
  else
  q1 cap
def dX (n:Nat) (s:List bG) (cap:Int) (k0:Int->Int->Option R):Option R :=
 bE (s.length:Int) s (fun x tO =>
  k0 x tO) (fun CW =>
  k0 (-1) CW) n 0 cap
def bw (q0:Int->Int->(List bG)->Option R):Nat->Int->Int->Int->(List bG)->Option R
 | 0,_,_,_,_=>none
 | m+1,i,j,cap,s =>
  bif (decide (j<(s.length:Int))) then
  aK (aZ j s.length) <|
  let el:=(s.getD j.toNat aJ)
  lF el cap fun r vo =>
  bif !r then
   aK (aZ i s.length) <|
   let row:=(s.set i.toNat el)
   bw q0 m (aA (i+1)) (aA (j+1)) vo row
  else
  bw q0 m i (aA (j+1)) vo s
  else
  q0 i cap s
def dH (n:Nat) (s:List bG) (cap:Int) (k0:(List bG)->Int->Option R):Option R :=
 dX n s cap fun r vo =>
 bif (r==(-1)) then
  k0 s vo
 else
 bw (fun i tO Kf =>
  aK (qh i Kf.length) <|
  let row:=(Kf.take i.toNat++(List.replicate (Kf.length-i.toNat) aJ++Kf.drop (i.toNat+(Kf.length-i.toNat))))
  aK (qh i row.length) <|
  k0 (sub row 0 i.toNat) tO) n r (aA (r+1)) vo s
def rf (n:Nat) (id:Int) (xm:Mem) (k0:Mem->Option R):Option R :=
 dH n xm.ae id fun r vo =>
 k0 ⟨xm.aa,xm.an,r,xm.Next⟩
def uk (n:Nat) (xm:Mem) (id:Int) (k0:Mem->Option R):Option R :=
 qA n xm fun aR =>
 rf n id aR fun mo =>
 k0 ⟨aR.aa,aR.an,mo.ae,mo.Next⟩
def jR (x:Int) (v:Int) (qf:List Int) (q0:Bool->Option R) (q1:Option R):Nat->Int->Option R
 | 0,_=>none
 | m+1,eH =>
  bif (decide (eH<x)) then
  aK (aZ eH qf.length) <|
  dL (qf.getD eH.toNat 0) 0 16 fun r =>
  bif (!r)||((!((qf.getD eH.toNat 0)==0))&&(v==0)) then
   q0 false
  else
  jR x v qf q0 q1 m (aA (eH+1))
  else
  q1
def uO (n:Nat) (x:aV) (k0:Bool->Option R):Option R :=
 jR (x.ay.length:Int) x.Kind x.ay (fun eH =>
  k0 eH) (
  dL x.Kind 0 2 fun r =>
  dL x.Links 0 200 fun cS =>
  let z:=bif r then cS else false
  k0 (((r&&z)&&((x.ay.length:Int)==2))&&((!(x.Kind==0))||(x.Links==0)))) n 0
def lb (s:ByteArray) (x:Int) (q0:Bool->Option R) (q1:Option R):Nat->Int->Option R
 | 0,_=>none
 | m+1,eH =>
  bif (decide (eH<x)) then
  aK (aZ eH s.size) <|
  dL (aA ((bt s eH.toNat:Int))) 97 122 fun r =>
  aK (!(!r)||(aZ eH s.size)) <|
  dL (aA ((bt s eH.toNat:Int))) 48 57 fun cS =>
  let z:=bif !r then cS else false
  bif (!r)&&(!z) then
   q0 false
  else
  lb s x q0 q1 m (aA (eH+1))
  else
  q1
def tz (n:Nat) (s:ByteArray) (k0:Bool->Option R):Option R :=
 lb s (s.size:Int) (fun x =>
  k0 x) (
  dL (s.size:Int) 1 6 fun r =>
  k0 r) n 0
def wT (i:Int) (k0:Bool->Option R):Option R :=
 dL i 1 8 fun r =>
 k0 r
def vR (s:Slot) (a:ByteArray) (k0:Bool->ByteArray->Option R):Option R :=
 k0 (s.Name==a) a
def bI (x:Int) (s:List Slot) (q0:Int->ByteArray->Option R) (q1:ByteArray->Option R):Nat->Int->ByteArray->Option R
 | 0,_,_=>none
 | m+1,eH,cap =>
  bif (decide (eH<x)) then
  aK (aZ eH s.length) <|
  let el:=(s.getD eH.toNat aq)
  vR el cap fun r vo =>
  bif r then
   q0 eH vo
  else
  bI x s q0 q1 m (aA (eH+1)) vo
  else
  q1 cap
def eu (n:Nat) (s:List Slot) (cap:ByteArray) (k0:Int->ByteArray->Option R):Option R :=
 bI (s.length:Int) s (fun x tO =>
  k0 x tO) (fun CW =>
  k0 (-1) CW) n 0 cap
def sM (n:Nat) (b:Block) (name:ByteArray) (k0:Int->Option R):Option R :=
 bif (name==eS) then
  k0 (-1)
 else
 eu n b.ah name fun r vo =>
 k0 r
def ix (n:Nat) (x:Int) (v:Bool) (eM:ByteArray) (qf:List Slot) (dz:List Slot) (q0:Bool->Option R) (q1:Option R):Nat->Int->Option R
 | 0,_=>none
 | m+1,eH =>
  bif (decide (eH<x)) then
  aK (aZ eH qf.length) <|
  let el:=(qf.getD eH.toNat aq)
  bif ((el.Name==eS)&&(el.Ino==0)) then
   ix n x v eM qf dz q0 q1 m (aA (eH+1))
  else
  tz n el.Name fun r =>
  wT el.Ino fun cS =>
  let z:=bif !(!r) then cS else false
  sM n ⟨v,dz,eM⟩ el.Name fun dT =>
  let uW:=bif !((!r)||(!z)) then dT else 0
  bif ((!r)||(!z))||(!(uW==eH)) then
   q0 false
  else
  ix n x v eM qf dz q0 q1 m (aA (eH+1))
  else
  q1
def uF (n:Nat) (b:Block) (k0:Bool->Option R):Option R :=
 bif !b.cf then
  k0 (((b.ah.length:Int)==0)&&(decide ((b.Text.size:Int)<=16)))
 else
 ix n (b.ah.length:Int) b.cf b.Text b.ah b.ah (fun x =>
  k0 x) (
  k0 (((b.ah.length:Int)==4)&&(b.Text==eS))) n 0
def AN (b:au) (k0:Bool->Option R):Option R :=
 k0 (((b.ab.length:Int)==16)&&((b.bF.length:Int)==8))
def ld (n:Nat) (x:Int) (qf:List aV) (q0:Bool->Option R) (q1:Option R):Nat->Int->Option R
 | 0,_=>none
 | m+1,eH =>
  bif (decide (eH<x)) then
  aK (aZ eH qf.length) <|
  let el:=(qf.getD eH.toNat az)
  uO n el fun r =>
  bif !r then
   q0 false
  else
  ld n x qf q0 q1 m (aA (eH+1))
  else
  q1
def ij (n:Nat) (x:Int) (qf:List Block) (q0:Bool->Option R) (q1:Option R):Nat->Int->Option R
 | 0,_=>none
 | m+1,eH =>
  bif (decide (eH<x)) then
  aK (aZ eH qf.length) <|
  let el:=(qf.getD eH.toNat aC)
  uF n el fun r =>
  bif !r then
   q0 false
  else
  ij n x qf q0 q1 m (aA (eH+1))
  else
  q1
def xH (n:Nat) (d:aa) (k0:Bool->Option R):Option R :=
 ld n (d.ad.length:Int) d.ad (fun x =>
  k0 x) (
  ij n (d.ab.length:Int) d.ab (fun eH =>
  k0 eH) (
  AN d.au fun r =>
  k0 ((r&&((d.ad.length:Int)==8))&&((d.ab.length:Int)==16))) n 0) n 0
def uG (p:Int) (k0:Bool->Option R):Option R :=
 dL p 1 16 fun r =>
 k0 r
def ud (d:aa) (p:Int) (k0:Block->Option R):Option R :=
 dL p 1 (d.ab.length:Int) fun r =>
 bif !r then
  k0 ⟨false,[],eS⟩
 else
 aK (aZ (aA (p-1)) d.ab.length) <|
 let el:=(d.ab.getD ((aA (p-1)).toNat) aC)
 k0 el
def wc (d:bG) (k0:Bool->Option R):Option R :=
 k0 ((d.Kind==1)||(d.Kind==6))
def tU (d:aa) (i:Int) (k0:aV->Option R):Option R :=
 dL i 1 (d.ad.length:Int) fun r =>
 bif !r then
  k0 ⟨0,0,[]⟩
 else
 aK (aZ (aA (i-1)) d.ad.length) <|
 let el:=(d.ad.getD ((aA (i-1)).toNat) az)
 k0 el
def tj (d:bG) (k0:Bool->Option R):Option R :=
 k0 ((d.Kind==2)||(d.Kind==3))
def lZ (x:Int) (qf:List Int) (q0:Bool->Option R) (q1:Option R):Nat->Int->Option R
 | 0,_=>none
 | m+1,eH =>
  bif (decide (eH<x)) then
  aK (aZ eH qf.length) <|
  uG (qf.getD eH.toNat 0) fun r =>
  bif !r then
   q0 false
  else
  lZ x qf q0 q1 m (aA (eH+1))
  else
  q1
def Ax (n:Nat) (xm:Mem) (d:bG) (k0:Bool->Option R):Option R :=
 lZ (d.ab.length:Int) d.ab (fun x =>
  k0 x) (
  dL d.Id 1 (aA (xm.Next-1)) fun r =>
  dL d.bx 0 (aA (xm.Next-1)) fun cS =>
  let z:=bif r then cS else false
  dL d.Kind 1 6 fun dT =>
  let uW:=bif !(!(r&&z)) then dT else false
  wT d.Ino fun lq =>
  let Ai:=bif !((!(r&&z))||(!uW)) then lq else false
  dL d.Ptr 0 1 fun mG =>
  let Np:=bif !(((!(r&&z))||(!uW))||(!Ai)) then mG else false
  dL d.Block 0 16 fun uV =>
  let UK:=bif !((((!(r&&z))||(!uW))||(!Ai))||(!Np)) then uV else false
  dL d.Slot 0 3 fun AH =>
  let W8:=bif !(((((!(r&&z))||(!uW))||(!Ai))||(!Np))||(!UK)) then AH else false
  bif (((((!(r&&z))||(!uW))||(!Ai))||(!Np))||(!UK))||(!W8) then
  k0 false
  else
  ud xm.aa d.Block fun b =>
  wc ⟨d.Id,d.Kind,d.Ino,d.Ptr,d.Block,d.Slot,d.Name,d.au,d.eJ,d.bx,[]⟩ fun uR =>
  bif uR then
  tU xm.aa d.Ino fun i =>
  let Z1:=bif (decide (0<d.Block)) then i.Kind else 0
  let Zl:=bif (decide (0<d.Block)) then i.Links else 0
  let Wo:=bif (decide (0<d.Block)) then i.ay else []
  aK (!(decide (0<d.Block))||(aZ d.Ptr Wo.length)) <|
  k0 ((decide (0<d.Block))&&((Wo.getD d.Ptr.toNat 0)==d.Block))
  else
  tj ⟨d.Id,d.Kind,d.Ino,d.Ptr,d.Block,d.Slot,d.Name,d.au,d.eJ,d.bx,[]⟩ fun EH =>
  bif EH then
  aK (!((decide (0<d.Block))&&b.cf)||(aZ d.Slot b.ah.length)) <|
  aK (!(((decide (0<d.Block))&&b.cf)&&(!(((b.ah.getD d.Slot.toNat aq).Name)==eS)))||(aZ d.Slot b.ah.length)) <|
  k0 ((((decide (0<d.Block))&&b.cf)&&(!(((b.ah.getD d.Slot.toNat aq).Name)==eS)))&&(((b.ah.getD d.Slot.toNat aq).Ino)==d.Ino))
  else
  bif (d.Kind==4) then
  tz n d.Name fun LB =>
  let Yy:=bif (decide (0<d.Block))&&b.cf then LB else false
  k0 (((decide (0<d.Block))&&b.cf)&&Yy)
  else
  k0 true) n 0
def qR (d:bG) (a:Int) (k0:Bool->Int->Option R):Option R :=
 k0 (d.Id==a) a
def bD (x:Int) (s:List bG) (q0:Int->Int->Option R) (q1:Int->Option R):Nat->Int->Int->Option R
 | 0,_,_=>none
 | m+1,eH,cap =>
  bif (decide (eH<x)) then
  aK (aZ eH s.length) <|
  let el:=(s.getD eH.toNat aJ)
  qR el cap fun r vo =>
  bif r then
   q0 eH vo
  else
  bD x s q0 q1 m (aA (eH+1)) vo
  else
  q1 cap
def dV (n:Nat) (s:List bG) (cap:Int) (k0:Int->Int->Option R):Option R :=
 bD (s.length:Int) s (fun x tO =>
  k0 x tO) (fun CW =>
  k0 (-1) CW) n 0 cap
def qM (n:Nat) (xm:Mem) (id:Int) (k0:Int->Option R):Option R :=
 dV n xm.ae id fun r vo =>
 k0 r
def mC (n:Nat) (x:Int) (v:Int) (qf:List bG) (eM:List Bool) (dz:List Bool) (gr:List aV) (jk:List Block) (lW:List Bool) (ia:List bG) (q0:Bool->Option R) (q1:Option R):Nat->Int->Option R
 | 0,_=>none
 | m+1,eH =>
  bif (decide (eH<x)) then
  aK (aZ eH qf.length) <|
  let el:=(qf.getD eH.toNat aJ)
  Ax n ⟨⟨⟨eM,dz⟩,gr,jk⟩,lW,ia,v⟩ el fun r =>
  qM n ⟨⟨⟨eM,dz⟩,gr,jk⟩,lW,ia,v⟩ el.Id fun cS =>
  let z:=bif !(!r) then cS else 0
  bif (!r)||(!(z==eH)) then
   q0 false
  else
  mC n x v qf eM dz gr jk lW ia q0 q1 m (aA (eH+1))
  else
  q1
def AD (n:Nat) (xm:Mem) (k0:Bool->Option R):Option R :=
 xH n xm.aa fun r =>
 dL xm.Next 1 100000 fun cS =>
 let z:=bif !(((!r)||(!((xm.an.length:Int)==21)))||(decide (40<(xm.ae.length:Int)))) then cS else false
 bif (((!r)||(!((xm.an.length:Int)==21)))||(decide (40<(xm.ae.length:Int))))||(!z) then
  k0 false
 else
 mC n (xm.ae.length:Int) xm.Next xm.ae xm.aa.au.ab xm.aa.au.bF xm.aa.ad xm.aa.ab xm.an xm.ae (fun x =>
  k0 x) (
  k0 true) n 0
def xA (n:Nat) (code:List UInt8) (k0:Bool->Option R):Option R :=
 K7 code fun r =>
 bif r then
  k0 true
 else
 lK n code fun xm d =>
 xQ n xm d fun aR cS =>
 hZ n xm d fun dJ dT =>
 om n aR dJ fun lq =>
 let z:=bif !(!(cS==dT)) then lq else false
 bif (!(cS==dT))||(!z) then
  k0 false
 else
 bif (cS==0) then
  om n aR xm fun mG =>
  k0 mG
 else
 uk n aR cS fun pj =>
 aK (aZ (aA ((aR.ae.length:Int)-1)) aR.ae.length) <|
 let el:=(aR.ae.getD ((aA ((aR.ae.length:Int)-1)).toNat) aJ)
 AD n xm fun uV =>
 let uW:=bif ((((aR.ae.length:Int)==(aA ((xm.ae.length:Int)+1)))&&(el.Id==cS))&&(aR.Next==(aA (cS+1))))&&(decide ((pj.ae.length:Int)<=(xm.ae.length:Int))) then uV else false
 lL n xm fun AH =>
 let Ai:=bif ((((aR.ae.length:Int)==(aA ((xm.ae.length:Int)+1)))&&(el.Id==cS))&&(aR.Next==(aA (cS+1))))&&(decide ((pj.ae.length:Int)<=(xm.ae.length:Int))) then AH else false
 k0 ((((((aR.ae.length:Int)==(aA ((xm.ae.length:Int)+1)))&&(el.Id==cS))&&(aR.Next==(aA (cS+1))))&&(decide ((pj.ae.length:Int)<=(xm.ae.length:Int))))&&(uW==Ai))
end Go.Soft
