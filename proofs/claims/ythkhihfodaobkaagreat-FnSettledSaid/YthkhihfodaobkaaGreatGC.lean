import Derived.Test.YthkhihfodaobkaaGreatGB
import Derived.Orders
import Derived.LoopN
set_option linter.constructorNameAsVariable false
set_option linter.unusedSimpArgs false
set_option linter.unusedVariables false
namespace Go.Soft
open Go
variable {X:Ctx} {m M:Lk} {γ γ':Gh} {w w':World} {ρ:Operand->Value} {S T:St} {δ δ':Dl}
theorem lkZ_none {α:Type} {l:List (Nat×α)} {k:Nat} (h:k∉keys l):lkZ l k=none:=by
 induction l with
 | nil=>rfl
 | cons p l ih =>
  obtain ⟨j,v⟩:=p
  simp only [keys,List.mem_cons,not_or] at h
  simp only [lkZ,ih h.2]
  rw [if_neg (Ne.symm h.1)]
theorem lkZ_keys {α:Type} {l:List (Nat×α)} {k:Nat} {v:α} (h:lkZ l k=some v):(k,v)∈l:=by
 induction l with
 | nil=>cases h
 | cons p l ih =>
  obtain ⟨j,u⟩:=p
  simp only [lkZ] at h
  cases hz:lkZ l k with
  | some x=>simp only [hz,Option.some.injEq] at h; subst h; exact List.mem_cons_of_mem _ (ih hz)
  | none =>
   simp only [hz] at h
   by_cases hj:j=k
   ·rw [if_pos hj] at h; cases h; subst hj; exact List.mem_cons_self
   ·rw [if_neg hj] at h; cases h
theorem hasN_no {a:Nat} {l:List Nat} (h:a∉l):hasN a l=false:=by
 cases hh:hasN a l with
 | false=>rfl
 | true=>exact absurd (hasN_iff.1 hh) h
theorem anyN_iff {l m:List Nat}:anyN l m=true↔∃ x∈l,x∈m:=by
 induction l with
 | nil=>simp [anyN]
 | cons x l ih =>
  simp only [anyN]
  cases h:hasN x m with
  | true=>exact ⟨fun _=>⟨x,List.mem_cons_self,hasN_iff.1 h⟩,fun _=>rfl⟩
  | false =>
   have:x∉m:=fun hm=>by rw [hasN_iff.2 hm] at h; cases h
   simp only [ih,List.mem_cons,exists_eq_or_imp,this,false_or]
theorem anyN_no {l m:List Nat} (h:∀ x∈l,x∉m):anyN l m=false:=by
 cases hh:anyN l m with
 | false=>rfl
 | true=>obtain ⟨x,h1,h2⟩:=anyN_iff.1 hh; exact absurd h2 (h x h1)
theorem mem_kills {r:Nat}:r∈δ.kills↔r∈keys δ.mv\/r∈δ.kr\/r∈δ.ke\/r∈δ.kn:=by simp [Dl.kills]
theorem kills_no {r:Nat} (h:r∉δ.kills):lk δ.mv r=none/\hasN r δ.kr=false/\hasN r δ.ke=false/\hasN r δ.kn=false:=by
 rw [mem_kills] at h
 simp only [not_or] at h
 exact ⟨lk_none.2 h.1,hasN_no h.2.1,hasN_no h.2.2.1,hasN_no h.2.2.2⟩
theorem map_miss {x:Cv} (hr:∀ r∈x.rk,r∉δ.kills) (hv:∀ k∈x.vk,k∉δ.kv):δ.map x=x:=by
 cases x with
 | pv v c=>simp only [Dl.map,hasN_no (hv v (by simp [Cv.vk]))]
 | fn f l=>simp only [Dl.map,anyN_no (fun k hk=>hv k (by simpa [Cv.vk] using hk))]
 | sw r=>obtain ⟨a,b,c,d⟩:=kills_no (hr r (by simp [Cv.rk,Cv.row])); simp only [Dl.map,a,b]
 | sl r o n=>obtain ⟨a,b,c,d⟩:=kills_no (hr r (by simp [Cv.rk,Cv.row])); simp only [Dl.map,a,b,c]
 | pe r o n=>obtain ⟨a,b,c,d⟩:=kills_no (hr r (by simp [Cv.rk,Cv.row])); simp only [Dl.map,a,b,c]
 | nw r _ _=>obtain ⟨a,b,c,d⟩:=kills_no (hr r (by simp [Cv.rk,Cv.row])); simp only [Dl.map,a,b,c,d]
 | ns r _ _ _ _=>obtain ⟨a,b,c,d⟩:=kills_no (hr r (by simp [Cv.rk,Cv.row])); simp only [Dl.map,a,b,c,d]
 | pn r _ _ _ _=>obtain ⟨a,b,c,d⟩:=kills_no (hr r (by simp [Cv.rk,Cv.row])); simp only [Dl.map,a,b,c,d]
 | _=>rfl
theorem mvT_mem {l:List (Nat×(Nat×Nat×Nat))} {r d e c:Nat} (h:lk l r=some (d,e,c)):d∈mvT l:=by
 have:=lk_mem h
 clear h
 induction l with
 | nil=>cases this
 | cons p l ih =>
  obtain ⟨j,d',ec⟩:=p
  rcases List.mem_cons.1 this with h | h
  ·simp only [Prod.mk.injEq] at h; obtain ⟨_,rfl,_⟩:=h; exact List.mem_cons_self
  ·exact List.mem_cons_of_mem _ (ih h)
theorem map_rk (x:Cv):(∀ r∈(δ.map x).rk,r∈x.rk\/r∈mvT δ.mv)/\(∀ k∈(δ.map x).vk,k∈x.vk):=by
 have un:∀ y:Cv,(∀ r∈Cv.un.rk,r∈y.rk\/r∈mvT δ.mv)/\(∀ k∈Cv.un.vk,k∈y.vk):=fun y=>⟨fun r h=>by simp [Cv.rk,Cv.row] at h,fun k h=>by simp [Cv.vk] at h⟩
 have me:∀ y:Cv,(∀ r∈y.rk,r∈y.rk\/r∈mvT δ.mv)/\(∀ k∈y.vk,k∈y.vk):=fun y=>⟨fun r h=> .inl h,fun k h=>h⟩
 cases x with
 | pv v c=>simp only [Dl.map]; split<;>first | exact un _ | exact me _
 | fn f l=>simp only [Dl.map]; split<;>first | exact un _ | exact me _
 | sw r =>
  simp only [Dl.map]; split
  ·rename_i d e c h; exact ⟨fun r hr=> .inr (by simp [Cv.rk,Cv.row] at hr; rw [hr]; exact mvT_mem h),fun k hk=>by simp [Cv.vk] at hk⟩
  ·split<;>first | exact un _ | exact me _
 | sl r o n =>
  simp only [Dl.map]; split
  ·rename_i d e c h; exact ⟨fun r hr=> .inr (by simp [Cv.rk,Cv.row] at hr; rw [hr]; exact mvT_mem h),fun k hk=>by simp [Cv.vk] at hk⟩
  ·split<;>first | exact un _ | exact me _
 | pe r o n =>
  simp only [Dl.map]; split
  ·rename_i d e c h; exact ⟨fun r hr=> .inr (by simp [Cv.rk,Cv.row] at hr; rw [hr]; exact mvT_mem h),fun k hk=>by simp [Cv.vk] at hk⟩
  ·split<;>first | exact un _ | exact me _
 | nw r _ _ =>
  simp only [Dl.map]; split
  ·exact un _
  ·split<;>first | exact un _ | exact me _
 | ns r _ _ _ _ =>
  simp only [Dl.map]; split
  ·exact un _
  ·split<;>first | exact un _ | exact me _
 | pn r _ _ _ _ =>
  simp only [Dl.map]; split
  ·exact un _
  ·split<;>first | exact un _ | exact me _
 | _=>exact me _
theorem map_comm (h:∀ r,(r∈mvT δ.mv\/r∈δ.kills)->¬(r∈mvT δ'.mv\/r∈δ'.kills)) (x:Cv):δ.map (δ'.map x)=δ'.map (δ.map x):=by
 have row:∀ r,x.rk=[r]->x.vk=[]->δ.map (δ'.map x)=δ'.map (δ.map x):=by
  intro r hr hv
  have novk:∀ (d:Dl) (k:Nat),k∈(d.map x).vk->False:=fun d k hk=>by have:=(map_rk (δ:=d) x).2 k hk; rw [hv] at this; simp at this
  by_cases h1:r∈δ.kills
  ·have h2:r∉δ'.kills:=fun hm=>h r (.inr h1) (.inr hm)
   have e1:δ'.map x=x:=map_miss (fun y hy=>by rw [hr] at hy; simp at hy; rw [hy]; exact h2) (fun k hk=>by rw [hv] at hk; simp at hk)
   rw [e1]
   refine (map_miss (fun y hy=> ?_) fun k hk=>(novk δ k hk).elim).symm
   rcases (map_rk (δ:=δ) x).1 y hy with hy | hy
   ·rw [hr] at hy; simp at hy; rw [hy]; exact h2
   ·exact fun hm=>h y (.inl hy) (.inr hm)
  ·have e1:δ.map x=x:=map_miss (fun y hy=>by rw [hr] at hy; simp at hy; rw [hy]; exact h1) (fun k hk=>by rw [hv] at hk; simp at hk)
   rw [e1]
   refine map_miss (fun y hy=> ?_) fun k hk=>(novk δ' k hk).elim
   rcases (map_rk (δ:=δ') x).1 y hy with hy | hy
   ·rw [hr] at hy; simp at hy; rw [hy]; exact h1
   ·exact fun hm=>h y (.inr hm) (.inl hy)
 cases x with
 | pv v c =>
  simp only [Dl.map]
  cases h1:hasN v δ.kv<;>cases h2:hasN v δ'.kv<;>simp [Dl.map,h1,h2]
 | fn f l =>
  simp only [Dl.map]
  cases h1:anyN l δ.kv<;>cases h2:anyN l δ'.kv<;>simp [Dl.map,h1,h2]
 | sw r=>exact row r rfl rfl
 | sl r _ _=>exact row r rfl rfl
 | pe r _ _=>exact row r rfl rfl
 | nw r _ _=>exact row r rfl rfl
 | ns r _ _ _ _=>exact row r rfl rfl
 | pn r _ _ _ _=>exact row r rfl rfl
 | _=>rfl
theorem rksL_mem {l:List Cv} {r:Nat}:r∈rksL l↔∃ x∈l,r∈x.rk:=by
 induction l with
 | nil=>simp [rksL]
 | cons x l ih=>simp [rksL,ih]
theorem vksL_mem {l:List Cv} {r:Nat}:r∈vksL l↔∃ x∈l,r∈x.vk:=by
 induction l with
 | nil=>simp [vksL]
 | cons x l ih=>simp [vksL,ih]
theorem cvsT_mem {l:List (Bool×List Cv)} {x:Cv}:x∈cvsT l↔∃ p∈l,x∈p.2:=by
 induction l with
 | nil=>simp [cvsT]
 | cons p l ih=>obtain ⟨b,cs⟩:=p; simp [cvsT,ih]
theorem mapL_miss {f:Cv->Cv} {l:List Cv} (h:∀ x∈l,f x=x):l.map f=l:=by
 induction l with
 | nil=>rfl
 | cons x l ih=>rw [List.map_cons,h x List.mem_cons_self,ih fun y hy=>h y (List.mem_cons_of_mem _ hy)]
theorem mapV_miss {f:Cv->Cv}:∀ {v:AV},(∀ x∈v.cvs,f x=x)->mapV f v=v
 | .c x,h=>by simp only [mapV]; rw [h x (by simp [AV.cvs])]
 | .a l,h=>by simp only [mapV]; rw [mapL_miss (l:=l) h]
 | .t l,h=>by
  simp only [mapV]
  congr 1
  have:∀ p∈l,(p.1,p.2.map f)=p:=fun p hp=>by rw [mapL_miss fun x hx=>h x (cvsT_mem.2 ⟨p,hp,hx⟩)]
  clear h
  induction l with
  | nil=>rfl
  | cons p l ih=>rw [List.map_cons,this p List.mem_cons_self,ih fun y hy=>this y (List.mem_cons_of_mem _ hy)]
 | .g p q v,h=>by simp only [mapV]; rw [mapV_miss (v:=v) h]
theorem mapV_comm {f g:Cv->Cv} (h:∀ x,f (g x)=g (f x)):∀ v:AV,mapV f (mapV g v)=mapV g (mapV f v)
 | .c x=>by simp only [mapV,h]
 | .a l=>by simp only [mapV,List.map_map]; congr 1; exact List.map_congr_left fun x _=>h x
 | .t l=>by
  simp only [mapV,List.map_map]; congr 1
  refine List.map_congr_left fun p _=> ?_
  simp only [Function.comp,List.map_map]; congr 1
  exact List.map_congr_left fun x _=>h x
 | .g p q v=>by simp only [mapV]; rw [mapV_comm h v]
structure Far (R V:List Nat) (l:List Cv):Prop where
 r:∀ r∈rksL l,r∉R
 v:∀ k∈vksL l,k∉V
theorem Far.cell {l:List Cv} (h:Far δ.kills δ.kv l):∀ x∈l,δ.map x=x:=fun x hx =>
 map_miss (fun r hr=>h.r r (rksL_mem.2 ⟨x,hx,hr⟩)) fun k hk=>h.v k (vksL_mem.2 ⟨x,hx,hk⟩)
theorem Far.list {l:List Cv} (h:Far δ.kills δ.kv l):l.map δ.map=l:=mapL_miss h.cell
theorem Far.val {v:AV} (h:Far δ.kills δ.kv v.cvs):mapV δ.map v=v:=mapV_miss h.cell
structure Eqv (S T:St):Prop where
 t:∀ t,lk S.tm t=lk T.tm t
 r:∀ k,S.lk.r k=T.lk.r k
 v:∀ k,S.lk.v k=T.lk.v k
theorem Eqv.refl (S:St):Eqv S S:=⟨fun _=>rfl,fun _=>rfl,fun _=>rfl⟩
theorem Eqv.symm (h:Eqv S T):Eqv T S:=⟨fun t=>(h.t t).symm,fun t=>(h.r t).symm,fun t=>(h.v t).symm⟩
theorem Eqv.trans {U:St} (h:Eqv S T) (h':Eqv T U):Eqv S U:=⟨fun t=>(h.t t).trans (h'.t t),fun t=>(h.r t).trans (h'.r t),fun t=>(h.v t).trans (h'.v t)⟩
theorem Eqv.lk (h:Eqv S T):S.lk=T.lk:=by
 have h1:S.lk.r=T.lk.r:=funext h.r
 have h2:S.lk.v=T.lk.v:=funext h.v
 cases hs:S.lk; cases ht:T.lk
 rw [hs,ht] at h1 h2
 simp only at h1 h2
 rw [h1,h2]
theorem Inv.eqv {e0:Lk} {γ0:Gh} {w0:World} {a:Act} (h:Inv X e0 γ0 w0 S γ a w) (he:Eqv S T):Inv X e0 γ0 w0 T γ a w:=by
 have hl:=he.lk
 refine ⟨hl▸h.rel,h.top,⟨h.tmp.1,fun t av ht=> ?_⟩,h.df,h.fr,by rw [← hl]; exact h.i3,h.i4,h.i2⟩
 rw [← he.t] at ht
 rw [← hl]
 exact h.tmp.2 t av ht
theorem GInv.eqv {D:List Nat} {a:Act} (h:GInv D S a) (he:Eqv S T):GInv D T a:=⟨fun t p q v ht=>h.g t p q v (by rw [he.t]; exact ht)⟩
structure Rec where
 o:Oper
 p:List (Nat×Bool)
 q:Bool
 v:AV
 δ:Dl
def app1 (S:St) (x:Rec):St:=(S.app x.δ).put x.o.dst (gd x.p x.q x.v)
theorem app1_t (S:St) (x:Rec) (t:Nat):lk (app1 S x).tm t=if x.o.dst=some t then some (gd x.p x.q x.v) else (lk S.tm t).map (mapV x.δ.map):=by
 simp only [app1,put_tm,app_t]
theorem app1_r (S:St) (x:Rec) (k:Nat):(app1 S x).lk.r k=match lkZ x.δ.rs k with | some r=>r | none=>S.lk.r k:=by
 simp only [app1,put_lk,app_r]; cases lkZ x.δ.rs k<;>rfl
theorem app1_v (S:St) (x:Rec) (k:Nat):(app1 S x).lk.v k=match lkZ x.δ.vs k with | some cs=>some cs | none=>(S.lk.v k).map (List.map x.δ.map):=by
 simp only [app1,put_lk,app_v]; cases lkZ x.δ.vs k<;>rfl
theorem app1_eqv (h:Eqv S T) (x:Rec):Eqv (app1 S x) (app1 T x) :=
 ⟨fun t=>by rw [app1_t,app1_t,h.t],fun k=>by rw [app1_r,app1_r,h.r],fun k=>by rw [app1_v,app1_v,h.v]⟩
def Rec.wr (x:Rec):List Nat:=mvT x.δ.mv++(x.δ.kills++keys x.δ.rs)
def Rec.wv (x:Rec):List Nat:=x.δ.kv++keys x.δ.vs
def Rec.ro (x:Rec):List Nat:=rksL x.v.cvs++rksL (vcs x.δ.vs)
def Rec.vo (x:Rec):List Nat:=vksL x.v.cvs++vksL (vcs x.δ.vs)
structure Apt (x y:Rec):Prop where
 d:∀ t,x.o.dst=some t->y.o.dst≠some t
 w:∀ r∈x.wr,r∉y.wr
 v:∀ k∈x.wv,k∉y.wv
 xr:∀ r∈x.wr,r∉y.ro
 xv:∀ k∈x.δ.kv,k∉y.vo
 yr:∀ r∈y.wr,r∉x.ro
 yv:∀ k∈y.δ.kv,k∉x.vo
theorem gd_cvs (p:List (Nat×Bool)) (q:Bool) (v:AV):∀ x∈(gd p q v).cvs,x∈v.cvs\/x= .un:=by
 intro x hx
 cases p with
 | nil=>cases v<;>simp_all [gd,dropG,AV.cvs]
 | cons y p=>exact .inl hx
theorem Rec.far (x y:Rec) (h1:∀ r∈y.wr,r∉x.ro) (h2:∀ k∈y.δ.kv,k∉x.vo):mapV y.δ.map (gd x.p x.q x.v)=gd x.p x.q x.v/\∀ k cs,lkZ x.δ.vs k=some cs->cs.map y.δ.map=cs:=by
 refine ⟨mapV_miss fun c hc=> ?_,fun k cs hcs=>mapL_miss fun c hc=> ?_⟩
 ·rcases gd_cvs _ _ _ c hc with hc | rfl
  ·exact map_miss (fun r hr hk=>h1 r (by simp [Rec.wr,hk]) (by simp only [Rec.ro,List.mem_append]; exact .inl (rksL_mem.2 ⟨c,hc,hr⟩)))
    fun k hk hm=>h2 k hm (by simp only [Rec.vo,List.mem_append]; exact .inl (vksL_mem.2 ⟨c,hc,hk⟩))
  ·rfl
 ·have hmem:c∈vcs x.δ.vs:=by
   have:=lkZ_keys hcs
   revert this
   generalize x.δ.vs=l
   induction l with
   | nil=>intro h; cases h
   | cons p l ih =>
    obtain ⟨j,l'⟩:=p
    intro h
    simp only [vcs,List.mem_append]
    rcases List.mem_cons.1 h with h | h
    ·simp only [Prod.mk.injEq] at h; exact .inl (h.2▸hc)
    ·exact .inr (ih h)
  exact map_miss (fun r hr hk=>h1 r (by simp [Rec.wr,hk]) (by simp only [Rec.ro,List.mem_append]; exact .inr (rksL_mem.2 ⟨c,hmem,hr⟩)))
    fun k hk hm=>h2 k hm (by simp only [Rec.vo,List.mem_append]; exact .inr (vksL_mem.2 ⟨c,hmem,hk⟩))
theorem app1_comm (S:St) {x y:Rec} (h:Apt x y):Eqv (app1 (app1 S x) y) (app1 (app1 S y) x):=by
 obtain ⟨x1,x2⟩:=Rec.far x y h.yr h.yv
 obtain ⟨y1,y2⟩:=Rec.far y x h.xr h.xv
 have hmap:∀ c,y.δ.map (x.δ.map c)=x.δ.map (y.δ.map c):=fun c=>(map_comm (δ:=x.δ) (δ':=y.δ) (fun r hr hr'=>h.w r (by simp [Rec.wr]; rcases hr with hr | hr<;>simp [hr]) (by simp [Rec.wr]; rcases hr' with hr | hr<;>simp [hr])) c).symm
 refine ⟨fun t=> ?_,fun k=> ?_,fun k=> ?_⟩
 ·simp only [app1_t]
  by_cases hx:x.o.dst=some t
  ·have hy:=h.d t hx
   simp only [hx,hy,if_true,if_false,Option.map_some,x1]
  ·by_cases hy:y.o.dst=some t
   ·simp only [hx,hy,if_true,if_false,Option.map_some,y1]
   ·simp only [hx,hy,if_false,Option.map_map]
    congr 1
    exact funext fun v=>mapV_comm hmap v
 ·simp only [app1_r]
  cases hx:lkZ x.δ.rs k with
  | none=>rfl
  | some r =>
   have:k∉keys y.δ.rs:=fun hk=>h.w k (by simp only [Rec.wr,List.mem_append]; exact .inr (.inr (mem_keys (lkZ_keys hx)))) (by simp only [Rec.wr,List.mem_append]; exact .inr (.inr hk))
   rw [lkZ_none this]
 ·simp only [app1_v]
  cases hx:lkZ x.δ.vs k with
  | none =>
   cases hy:lkZ y.δ.vs k with
   | none =>
    simp only [Option.map_map]
    congr 1
    funext l
    simp only [Function.comp,List.map_map]
    exact List.map_congr_left fun c _=>hmap c
   | some cs=>simp only [Option.map_some,y2 k cs hy]
  | some cs =>
   have:k∉keys y.δ.vs:=fun hk=>h.v k (by simp only [Rec.wv,List.mem_append]; exact .inr (mem_keys (lkZ_keys hx))) (by simp only [Rec.wv,List.mem_append]; exact .inr hk)
   rw [lkZ_none this]
   simp only [Option.map_some,x2 k cs hx]
def stD (L:Nat->Bool):Nat->St->List Rec->St
 | _,S,[]=>S
 | n,S,x::l=>stD L (n+1) (bif L n then app1 S x else S) l
theorem stD_eqv (L:Nat->Bool):∀ (l:List Rec) (n:Nat) {S T:St},Eqv S T->Eqv (stD L n S l) (stD L n T l)
 | [],_,_,_,h=>h
 | x::l,n,S,T,h=>by
  simp only [stD]
  refine stD_eqv L l (n+1) ?_
  cases L n
  ·exact h
  ·exact app1_eqv h x
theorem stD_append (L:Nat->Bool):∀ (l l':List Rec) (n:Nat) (S:St),stD L n S (l++l')=stD L (n+l.length) (stD L n S l) l'
 | [],_,_,_=>rfl
 | x::l,l',n,S=>by
  simp only [List.cons_append,stD,List.length_cons]
  rw [stD_append L l l' (n+1),Nat.add_assoc,Nat.add_comm 1]
theorem stD_congr {L L':Nat->Bool}:∀ (l:List Rec) (n:Nat) (S:St),(∀ k,n<=k->k<n+l.length->L k=L' k)->stD L n S l=stD L' n S l
 | [],_,_,_=>rfl
 | x::l,n,S,h=>by
  simp only [stD]
  rw [h n (Nat.le_refl n) (by simp),stD_congr l (n+1) _ fun k h1 h2=>h k (by omega) (by simp; omega)]
theorem stD_all {L:Nat->Bool}:∀ (l:List Rec) (n:Nat) (S:St),(∀ k,n<=k->k<n+l.length->L k=true)->stD L n S l=l.foldl app1 S
 | [],_,_,_=>rfl
 | x::l,n,S,h=>by
  simp only [stD,List.foldl_cons]
  rw [h n (Nat.le_refl n) (by simp),stD_all l (n+1) _ fun k h1 h2=>h k (by omega) (by simp; omega)]
  rfl
theorem stD_none {L:Nat->Bool}:∀ (l:List Rec) (n:Nat) (S:St),(∀ k,n<=k->k<n+l.length->L k=false)->stD L n S l=S
 | [],_,_,_=>rfl
 | x::l,n,S,h=>by
  simp only [stD]
  rw [h n (Nat.le_refl n) (by simp)]
  exact stD_none l (n+1) _ fun k h1 h2=>h k (by omega) (by simp; omega)
theorem stD_last (L:Nat->Bool) (x:Rec):∀ (l:List Rec) (n:Nat) (S:St),(∀ (k:Nat) (y:Rec),l[k]? =some y->L (n+k)=true->Apt x y)->Eqv (stD L n (app1 S x) l) (app1 (stD L n S l) x)
 | [],_,_,_=>Eqv.refl _
 | y::l,n,S,h=>by
  simp only [stD]
  have ih:=fun T=>stD_last L x l (n+1) T fun k z hk hL=>h (k+1) z (by simpa using hk) (by rw [← hL]; congr 1; omega)
  cases hL:L n with
  | false=>exact ih S
  | true=>exact (stD_eqv L l (n+1) (app1_comm S (h 0 y rfl (by simpa using hL)))).trans (ih _)
structure Agr (KT KV KR:List Nat) (S T:St):Prop where
 t:∀ t∈KT,lk S.tm t=lk T.tm t
 v:∀ k∈KV,S.lk.v k=T.lk.v k
 r:∀ k∈KR,S.lk.r k=T.lk.r k
variable {KT KV KR:List Nat}
theorem Agr.both (h:Agr KT KV KR S T) (x:Rec):Agr KT KV KR (app1 S x) (app1 T x) :=
 ⟨fun t ht=>by rw [app1_t,app1_t,h.t t ht],fun k hk=>by rw [app1_v,app1_v,h.v k hk],fun k hk=>by rw [app1_r,app1_r,h.r k hk]⟩
structure Off (KT KV KR:List Nat) (S:St) (x:Rec):Prop where
 d:∀ t∈KT,x.o.dst≠some t
 t:∀ t∈KT,∀ v,lk S.tm t=some v->Far x.δ.kills x.δ.kv v.cvs
 k:∀ k∈KV,k∉keys x.δ.vs
 v:∀ k∈KV,∀ cs,S.lk.v k=some cs->Far x.δ.kills x.δ.kv cs
 r:∀ k∈KR,k∉keys x.δ.rs
theorem Off.agr {x:Rec} (h:Off KT KV KR S x):Agr KT KV KR (app1 S x) S:=by
 refine ⟨fun t ht=> ?_,fun k hk=> ?_,fun k hk=> ?_⟩
 ·rw [app1_t,if_neg (h.d t ht)]
  cases hl:lk S.tm t with
  | none=>rfl
  | some v=>simp only [Option.map_some,(h.t t ht v hl).val]
 ·rw [app1_v,lkZ_none (h.k k hk)]
  cases hl:S.lk.v k with
  | none=>rfl
  | some cs=>simp only [Option.map_some,(h.v k hk cs hl).list]
 ·rw [app1_r,lkZ_none (h.r k hk)]
theorem Agr.trans {U:St} (h:Agr KT KV KR S T) (h':Agr KT KV KR T U):Agr KT KV KR S U:=⟨fun t ht=>(h.t t ht).trans (h'.t t ht),fun t ht=>(h.v t ht).trans (h'.v t ht),fun t ht=>(h.r t ht).trans (h'.r t ht)⟩
theorem Agr.symm (h:Agr KT KV KR S T):Agr KT KV KR T S:=⟨fun t ht=>(h.t t ht).symm,fun t ht=>(h.v t ht).symm,fun t ht=>(h.r t ht).symm⟩
theorem Off.congr {x:Rec} (h:Off KT KV KR S x) (ha:Agr KT KV KR S T):Off KT KV KR T x :=
 ⟨h.d,fun t ht v hv=>h.t t ht v (by rw [ha.t t ht]; exact hv),h.k,fun k hk cs hc=>h.v k hk cs (by rw [ha.v k hk]; exact hc),h.r⟩
theorem agr_pre (L:Nat->Bool):∀ (l:List Rec) (n:Nat) (S T:St),Agr KT KV KR S T->(∀ (k:Nat) (x:Rec),l[k]? =some x->L (n+k)=false->Off KT KV KR ((l.take k).foldl app1 S) x) ->
  Agr KT KV KR (l.foldl app1 S) (stD L n T l)
 | [],_,_,_,h,_=>h
 | x::l,n,S,T,h,ho=>by
  simp only [List.foldl_cons,stD]
  refine agr_pre L l (n+1) (app1 S x) _ ?_ fun k y hk hL=> ?_
  ·cases hL:L n with
   | true=>exact h.both x
   | false=>exact ((ho 0 x rfl (by simpa using hL)).agr).trans h
  ·have:=ho (k+1) y (by simpa using hk) (by rw [← hL]; congr 1; omega)
   simpa using this
theorem agr_suf (L:Nat->Bool):∀ (l:List Rec) (n:Nat) (S T:St),Agr KT KV KR S T->(∀ (k:Nat) (x:Rec),l[k]? =some x->L (n+k)=true->Off KT KV KR S x)->Agr KT KV KR S (stD L n T l)
 | [],_,_,_,h,_=>h
 | x::l,n,S,T,h,ho=>by
  simp only [stD]
  refine agr_suf L l (n+1) S _ ?_ fun k y hk hL=>ho (k+1) y (by simpa using hk) (by rw [← hL]; congr 1; omega)
  cases hL:L n with
  | true=>exact h.trans (((ho 0 x rfl (by simpa using hL)).congr h).agr).symm
  | false=>exact h
theorem lk_cutL {α:Type} (ks:List Nat) (l:List (Nat×α)) (k:Nat):lk (cutL ks l) k=if k∈ks then lk l k else none:=by
 induction l with
 | nil=>simp [cutL,lk]
 | cons p l ih =>
  obtain ⟨j,v⟩:=p
  simp only [cutL]
  cases h:hasN j ks with
  | true =>
   simp only [lk,ih]
   cases hj:Nat.beq j k with
   | true=>have:=nat_beq hj; subst this; simp [hasN_iff.1 h]
   | false=>rfl
  | false =>
   simp only [ih,lk]
   cases hj:Nat.beq j k with
   | true =>
    have:=nat_beq hj; subst this
    have:j∉ks:=fun hm=>by rw [hasN_iff.2 hm] at h; cases h
    simp [this]
   | false=>rfl
end Go.Soft
namespace Go.Soft
open Go
variable {X:Ctx} {m M:Lk} {γ γ':Gh} {w w':World} {ρ:Operand->Value} {S T:St} {δ δ':Dl}
section
variable {R:Type} {E:Env R} {ops:Array Oper}
def stI (S:St) (rs:List Rec) (i:Nat):St:=(rs.take i).foldl app1 S
def TrOk (X:Ctx) (E:Env R) (ops:Array Oper) (S:St) (rs:List Rec):Prop:=∀ (i:Nat) (x:Rec),rs[i]? =some x ->
 ∀ K:List (Nat×Bool)×Bool×AV×Dl->Option R,(runOp X E ops ((stI S rs i).cut ops x.o) x.o fun p q v δ=>K (p,q,v,δ))=K (x.p,x.q,x.v,x.δ)
def fpsL (ops:Array Oper):St->List Rec->List Fp
 | _,[]=>[]
 | S,x::l=>fpOf ops S x.o x.v x.δ::fpsL ops (app1 S x) l
theorem fpsL_get:∀ (rs:List Rec) (S:St) (i:Nat) (x:Rec),rs[i]? =some x->(fpsL ops S rs)[i]? =some (fpOf ops (stI S rs i) x.o x.v x.δ)
 | [],_,_,_,h=>by simp at h
 | y::l,S,0,x,h=>by simp at h; subst h; rfl
 | y::l,S,i+1,x,h=>by
  have:=fpsL_get l (app1 S y) i x (by simpa using h)
  simpa [fpsL,stI] using this
theorem trace (r0:R) (hE:∀ f acs vin,Uni (E.fn f acs vin)) {s':St} {fp':List Fp}:∀ (l:List Oper) (S:St) (fp:List Fp),(∀ K:St×List Fp->Option R,(execOps X E ops true l S fp fun s f=>K (s,f))=K (s',fp')) ->
  ∃ rs:List Rec,rs.map (·.o)=l/\TrOk X E ops S rs/\s'=rs.foldl app1 S/\fp'=fp++fpsL ops S rs
 | [],S,fp,h=>by
  have:=ev_inj r0 h
  simp only [Prod.mk.injEq] at this
  exact ⟨[],rfl,fun i x hx=>by simp at hx,this.1.symm,by simp [fpsL,this.2]⟩
 | o::l,S,fp,h=>by
  obtain ⟨oc,hoc⟩:=runOp_uni (X:=X) hE ops (S.cut ops o) o
  cases oc with
  | none =>
   exact False.elim<|ev_none r0 (α:=St×List Fp) (y:=(s',fp')) fun K=>by
    have h1:=h K
    have h2:=hoc fun x=>execOps X E ops true l ((S.app x.2.2.2).put o.dst (gd x.1 x.2.1 x.2.2.1)) (fp++[fpOf ops S o x.2.2.1 x.2.2.2]) fun s f=>K (s,f)
    exact h2.symm.trans h1
  | some x =>
   obtain ⟨p,q,v,δ⟩:=x
   have hK2:∀ K:St×List Fp->Option R,(execOps X E ops true l (app1 S ⟨o,p,q,v,δ⟩) (fp++[fpOf ops S o v δ]) fun s f=>K (s,f))=K (s',fp'):=by
    intro K
    have h1:=h K
    have h2:=hoc fun x=>execOps X E ops true l ((S.app x.2.2.2).put o.dst (gd x.1 x.2.1 x.2.2.1)) (fp++[fpOf ops S o x.2.2.1 x.2.2.2]) fun s f=>K (s,f)
    exact h2.symm.trans h1
   obtain ⟨rs,h1,h2,h3,h4⟩:=trace r0 hE l _ _ hK2
   refine ⟨⟨o,p,q,v,δ⟩::rs,by simp [h1],fun i x hx K=> ?_,by simpa using h3,by simp [fpsL,h4]⟩
   cases i with
   | zero=>simp at hx; subst hx; exact hoc K
   | succ i=>exact h2 i x (by simpa using hx) K
theorem go_get {n:List Nat} {x:Fp}:∀ {m:List Fp} {i:Nat},apartAll.go n i m x=true->∀ (a:Nat) (y:Fp),m[a]? =some y->i+a∉n->apart y x=true
 | [],_,_,a,y,h,_=>by simp at h
 | z::m,i,hg,a,y,h,hn=>by
  simp only [apartAll.go,Bool.and_eq_true] at hg
  cases a with
  | zero =>
   simp at h; subst h
   have h1:=hg.1
   rw [hasN_no (by simpa using hn)] at h1
   exact h1
  | succ a=>exact go_get hg.2 a y (by simpa using h) (by rw [show i+1+a=i+(a+1) by omega]; exact hn)
theorem apartAll_get {A:List (List Nat)}:∀ {l done:List Fp},apartAll A done.length done l=true->∀ (a b:Nat) (y x:Fp),(done++l)[a]? =some y->l[b]? =some x->a<done.length+b->a∉getL A (done.length+b)->apart y x=true
 | [],done,_,a,b,y,x,_,hx,_,_=>by simp at hx
 | z::l,done,h,a,b,y,x,hy,hx,hab,hn=>by
  simp only [apartAll,Bool.and_eq_true] at h
  cases b with
  | zero =>
   simp at hx; subst hx
   simp only [Nat.add_zero] at hab hn
   rw [List.getElem?_append_left hab] at hy
   exact go_get h.1 a y hy (by simpa using hn)
  | succ b =>
   have hlen:(done++[z]).length=done.length+1:=by simp
   have h2:=h.2
   rw [← hlen] at h2
   exact apartAll_get h2 a b y x (by simpa using hy) (by simpa using hx) (by rw [hlen]; omega) (by rw [hlen,show done.length+1+b=done.length+(b+1) by omega]; exact hn)
theorem getL_lt {acc:List (List Nat)} {k x:Nat} (h:x∈getL acc k):k<acc.length:=by
 simp only [getL,nth_eq] at h
 rcases Nat.lt_or_ge k acc.length with hk | hk
 ·exact hk
 ·rw [List.getElem?_eq_none hk] at h; simp at h
theorem getL_append {acc b:List (List Nat)} {k:Nat} (h:k<acc.length):getL (acc++b) k=getL acc k:=by
 simp only [getL,nth_eq,List.getElem?_append_left h]
theorem mem_addN {x y:Nat} {l:List Nat}:x∈addN y l->x=y\/x∈l:=by
 simp only [addN]; split
 ·exact .inr
 ·exact fun h=>List.mem_cons.1 h
theorem mem_addNs {x:Nat}:∀ {l m:List Nat},x∈addNs l m->x∈l\/x∈m
 | [],m,h=> .inr h
 | y::l,m,h=>by
  simp only [addNs] at h
  rcases mem_addN h with rfl | h
  ·exact .inl List.mem_cons_self
  ·exact (mem_addNs h).imp (List.mem_cons_of_mem _) id
theorem mem_ancF {acc:List (List Nat)} {x:Nat}:∀ {es:List Nat},x∈ancF acc es->∃ e∈es,x=e\/x∈getL acc e
 | [],h=>by simp [ancF] at h
 | e::l,h=>by
  simp only [ancF] at h
  rcases mem_addN h with rfl | h
  ·exact ⟨x,List.mem_cons_self,.inl rfl⟩
  ·rcases mem_addNs h with h | h
   ·exact ⟨e,List.mem_cons_self,.inr h⟩
   ·obtain ⟨e',h1,h2⟩:=mem_ancF h; exact ⟨e',List.mem_cons_of_mem _ h1,h2⟩
theorem ancs_pre:∀ (l:List Oper) (acc:List (List Nat)),∃ b,ancs acc l=acc++b
 | [],acc=>⟨[],by simp [ancs]⟩
 | o::l,acc=>by
  obtain ⟨b,hb⟩:=ancs_pre l (acc++[ancF acc (edgesL o.after.toList)])
  exact ⟨ancF acc (edgesL o.after.toList)::b,by simp [ancs,hb]⟩
theorem ancs_mem:∀ {l:List Oper} {acc:List (List Nat)} {k x:Nat} {o:Oper},l[k]? =some o->x∈getL (ancs acc l) (acc.length+k)->∃ e∈edgesL o.after.toList,x=e\/x∈getL (ancs acc l) e
 | [],_,_,_,_,h,_=>by simp at h
 | z::l,acc,0,x,o,h,hx=>by
  simp at h; subst h
  obtain ⟨b,hb⟩:=ancs_pre l (acc++[ancF acc (edgesL z.after.toList)])
  have hz:getL (ancs acc (z::l)) acc.length=ancF acc (edgesL z.after.toList):=by
   simp only [ancs,hb,getL,nth_eq]; simp
  rw [Nat.add_zero,hz] at hx
  obtain ⟨e,h1,h2⟩:=mem_ancF hx
  refine ⟨e,h1,h2.imp id fun h3=> ?_⟩
  have:ancs acc (z::l)=acc++([ancF acc (edgesL z.after.toList)]++b):=by simp [ancs,hb]
  rw [this,getL_append (getL_lt h3)]; exact h3
 | z::l,acc,k+1,x,o,h,hx=>by
  simp only [ancs] at hx ⊢
  exact ancs_mem (acc:=acc++[ancF acc (edgesL z.after.toList)]) (by simpa using h) (by rw [List.length_append,List.length_singleton,show acc.length+1+k=acc.length+(k+1) by omega]; exact hx)
theorem gdAnc_get {A:List (List Nat)}:∀ {l:List Oper} {n:Nat},gdAnc A n l=true->∀ (i:Nat) (o:Oper),l[i]? =some o->∀ j w,o.guard=some (j,w)->j∈getL A (n+i)
 | [],_,_,i,o,h,_,_,_=>by simp at h
 | z::l,n,hg,i,o,h,j,w,ho=>by
  simp only [gdAnc,Bool.and_eq_true] at hg
  cases i with
  | zero=>simp at h; subst h; have h1:=hg.1; rw [ho] at h1; exact hasN_iff.1 h1
  | succ i=>have:=gdAnc_get hg.2 i o (by simpa using h) j w ho; rwa [show n+1+i=n+(i+1) by omega] at this
theorem edgesL_mem {e:Nat}:∀ {l:List Edge},e∈edgesL l↔∃ d∈l,bindsE d=true/\d.on=e
 | []=>by simp [edgesL]
 | d::l=>by
  simp only [edgesL]
  cases h:bindsE d with
  | true=>simp only [List.mem_cons,edgesL_mem,exists_eq_or_imp,h,true_and]; exact ⟨fun h=>h.imp Eq.symm id,fun h=>h.imp Eq.symm id⟩
  | false=>simp [edgesL_mem,h]
theorem bindsE_any (d:Edge):Region.binds .any d=bindsE d:=by
 obtain ⟨on,g⟩:=d
 cases g<;>rfl
theorem edgeLt_get:∀ {l:List Oper} {n:Nat},edgeLt n l=true->∀ (i:Nat) (o:Oper),l[i]? =some o->∀ e∈edgesL o.after.toList,e<n+i
 | [],_,_,i,o,h,_,_=>by simp at h
 | z::l,n,hg,i,o,h,e,he=>by
  simp only [edgeLt,Bool.and_eq_true] at hg
  cases i with
  | zero=>simp at h; subst h; exact allLt_iff.1 hg.1 e he
  | succ i=>have:=edgeLt_get hg.2 i o (by simpa using h) e he; omega
structure ApS (a b:Fp):Prop where
 wt:∀ t∈a.wt,t∉b.rt
 d1:∀ t,a.d=some t->t∉b.rt
 d2:∀ t,b.d=some t->t∉a.rt
 dd:∀ t,a.d=some t->b.d≠some t
 r1:∀ r∈a.wr,r∉b.rr
 r2:∀ r∈a.wr,r∉b.wr
 r3:∀ r∈a.rr,r∉b.wr
 v1:∀ r∈a.wv,r∉b.rv
 v2:∀ r∈a.wv,r∉b.wv
 v3:∀ r∈a.rv,r∉b.wv
 k1:∀ r∈a.kw,r∉b.pm
 k2:∀ r∈a.pm,r∉b.kw
theorem disjO_iff {a:Option Nat} {l:List Nat} (h:disjO a l=true):∀ t,a=some t->t∉l:=by
 intro t ht
 subst ht
 intro hm
 simp only [disjO,hasN_iff.2 hm] at h
 cases h
theorem apart_spec {a b:Fp} (h:apart a b=true):ApS a b:=by
 simp only [apart,Bool.and_eq_true] at h
 obtain ⟨h0,h1,h2,h3,h4,h5,h6,h7,h8,h9,h10,h11⟩:=h
 refine ⟨disjN_iff.1 h0,disjO_iff h1,disjO_iff h2,fun t ha hb=> ?_,disjN_iff.1 h4,disjN_iff.1 h5,disjN_iff.1 h6,disjN_iff.1 h7,disjN_iff.1 h8,disjN_iff.1 h9,disjN_iff.1 h10,disjN_iff.1 h11⟩
 rw [ha,hb] at h3
 simp only [Nat.beq_refl] at h3
 cases h3
theorem hitT_no {Rs V:List Nat}:∀ {l:List (Nat×AV)} {t:Nat} {v:AV},t∉hitT Rs V l->lk l t=some v->Far Rs V v.cvs
 | [],_,_,_,h=>by cases h
 | (k,u)::l,t,v,hn,h=>by
  simp only [hitT] at hn
  simp only [lk] at h
  cases hk:Nat.beq k t with
  | true =>
   simp only [hk,Option.some.injEq] at h
   have:=nat_beq hk; subst this; subst h
   revert hn; split
   ·rename_i h1 h2
    intro _
    exact ⟨fun r hr hm=>(by rw [anyN_iff.2 ⟨r,hr,hm⟩] at h1; cases h1),fun r hr hm=>(by rw [anyN_iff.2 ⟨r,hr,hm⟩] at h2; cases h2)⟩
   ·intro hn; exact absurd List.mem_cons_self hn
  | false =>
   simp only [hk] at h
   refine hitT_no (l:=l) ?_ h
   revert hn; split
   ·exact id
   ·intro hn hm; exact hn (List.mem_cons_of_mem _ hm)
theorem hitV_no {Rs V:List Nat}:∀ {l:List (Nat×List Cv)} {t:Nat} {v:List Cv},t∉hitV Rs V l->lk l t=some v->Far Rs V v
 | [],_,_,_,h=>by cases h
 | (k,u)::l,t,v,hn,h=>by
  simp only [hitV] at hn
  simp only [lk] at h
  cases hk:Nat.beq k t with
  | true =>
   simp only [hk,Option.some.injEq] at h
   have:=nat_beq hk; subst this; subst h
   revert hn; split
   ·rename_i h1 h2
    intro _
    exact ⟨fun r hr hm=>(by rw [anyN_iff.2 ⟨r,hr,hm⟩] at h1; cases h1),fun r hr hm=>(by rw [anyN_iff.2 ⟨r,hr,hm⟩] at h2; cases h2)⟩
   ·intro hn; exact absurd List.mem_cons_self hn
  | false =>
   simp only [hk] at h
   refine hitV_no (l:=l) ?_ h
   revert hn; split
   ·exact id
   ·intro hn hm; exact hn (List.mem_cons_of_mem _ hm)
theorem quiet_far (h:δ.quiet=true) (l:List Cv):Far δ.kills δ.kv l:=by
 obtain ⟨mv,kr,ke,kn,kv,rs,vs⟩:=δ
 have:mv=[]/\kr=[]/\ke=[]/\kn=[]/\kv=[]:=by
  revert h; simp only [Dl.quiet]; split<;>simp_all
 obtain ⟨rfl,rfl,rfl,rfl,rfl⟩:=this
 exact ⟨fun r _ hm=>by simp [Dl.kills,keys] at hm,fun r _ hm=>by simp at hm⟩
theorem Off.ahead {A B:St} {x y:Rec} (h:ApS (fpOf ops A x.o x.v x.δ) (fpOf ops B y.o y.v y.δ)) :
  Off (rdT ops y.o) (rdV (opAs ops B y.o)) (rdR B (opAs ops B y.o)) A x:=by
 have wt:∀ t∈rdT ops y.o,∀ v,lk A.tm t=some v->Far x.δ.kills x.δ.kv v.cvs:=by
  intro t ht v hv
  cases hq:x.δ.quiet with
  | true=>exact quiet_far hq _
  | false =>
   refine hitT_no (fun hm=>h.wt t ?_ ht) hv
   simp only [fpOf,hq]; exact hm
 have wv:∀ k∈rdV (opAs ops B y.o),∀ cs,A.lk.v k=some cs->Far x.δ.kills x.δ.kv cs:=by
  intro k hk cs hc
  cases hq:x.δ.quiet with
  | true=>exact quiet_far hq _
  | false =>
   refine hitV_no (fun hm=>h.v1 k ?_ hk) hc
   simp only [fpOf,hq,List.mem_append]; exact .inr (.inl hm)
 refine ⟨fun t ht hd=>h.d1 t hd ht,wt,fun k hk hm=>h.v1 k ?_ hk,wv,fun k hk hm=>h.r1 k ?_ ?_⟩
 ·simp only [fpOf,List.mem_append]; exact .inr (.inr hm)
 ·simp only [fpOf,List.mem_append]; exact .inr (.inr hm)
 ·simp only [fpOf,List.mem_append]; exact .inr (.inl hk)
theorem opAs_mem {o:Oper} {t:Nat} {v:AV} (ht:t∈rdT ops o) (hv:lk S.tm t=some v):v∈opAll ops S o:=by
 simp only [opAll,fmap_eq]
 exact List.mem_map.2 ⟨t,ht,by simp only [St.get,hv]⟩
theorem rksA_mem {l:List AV} {v:AV} {r:Nat} (hv:v∈l) (hr:r∈rksL v.cvs):r∈rksA l:=by
 induction l with
 | nil=>cases hv
 | cons x l ih=>simp only [rksA,List.mem_append]; rcases List.mem_cons.1 hv with rfl | hv; exact .inl hr; exact .inr (ih hv)
theorem vksA_mem {l:List AV} {v:AV} {r:Nat} (hv:v∈l) (hr:r∈vksL v.cvs):r∈vksA l:=by
 induction l with
 | nil=>cases hv
 | cons x l ih=>simp only [vksA,List.mem_append]; rcases List.mem_cons.1 hv with rfl | hv; exact .inl hr; exact .inr (ih hv)
theorem rowsOf_mem {l:List Nat} {k r:Nat} {cs:List Cv} (hk:k∈l) (hc:m.v k=some cs) (hr:r∈rksL cs):r∈m.rowsOf l:=by
 induction l with
 | nil=>cases hk
 | cons x l ih=>simp only [Lk.rowsOf,List.mem_append]; rcases List.mem_cons.1 hk with rfl | hk; exact .inl (by rw [hc]; exact hr); exact .inr (ih hk)
theorem varsOf_mem {l:List Nat} {k r:Nat} {cs:List Cv} (hk:k∈l) (hc:m.v k=some cs) (hr:r∈vksL cs):r∈m.varsOf l:=by
 induction l with
 | nil=>cases hk
 | cons x l ih=>simp only [Lk.varsOf,List.mem_append]; rcases List.mem_cons.1 hk with rfl | hk; exact .inl (by rw [hc]; exact hr); exact .inr (ih hk)
theorem Off.behind {A B:St} {x y:Rec} (h:ApS (fpOf ops B y.o y.v y.δ) (fpOf ops A x.o x.v x.δ)) :
  Off (rdT ops y.o) (rdV (opAs ops B y.o)) (rdR B (opAs ops B y.o)) B x:=by
 have kw:∀ r∈x.δ.kills,r∈(fpOf ops A x.o x.v x.δ).wr:=fun r hr=>by simp only [fpOf,List.mem_append]; exact .inr (.inl hr)
 refine ⟨fun t ht hd=>h.d2 t hd ht,fun t ht v hv=>⟨fun r hr hm=>h.r3 r ?_ (kw r hm),fun k hk hm=>h.k2 k ?_ hm⟩,fun k hk hm=>h.v3 k hk ?_,fun k hk cs hc=>⟨fun r hr hm=>h.r3 r ?_ (kw r hm),fun r hr hm=>h.k2 r ?_ hm⟩,fun k hk hm=>h.r3 k ?_ ?_⟩
 ·simp only [fpOf,List.mem_append]; exact .inl (rksA_mem (opAs_mem ht hv) hr)
 ·simp only [fpOf,List.mem_append]; exact .inl (vksA_mem (opAs_mem ht hv) hk)
 ·simp only [fpOf,List.mem_append]; exact .inr (.inr hm)
 ·simp only [fpOf,rdR,List.mem_append]; exact .inr (.inl (.inr (rowsOf_mem hk hc hr)))
 ·simp only [fpOf,List.mem_append]; exact .inr (.inl (varsOf_mem hk hc hr))
 ·simp only [fpOf,List.mem_append]; exact .inr (.inl hk)
 ·simp only [fpOf,List.mem_append]; exact .inr (.inr hm)
theorem Apt.of {A B:St} {x y:Rec} (h:ApS (fpOf ops A x.o x.v x.δ) (fpOf ops B y.o y.v y.δ)):Apt x y:=by
 have wr:∀ (A:St) (x:Rec),∀ r∈x.wr,r∈(fpOf ops A x.o x.v x.δ).wr:=fun A x r hr=>hr
 have wv:∀ (A:St) (x:Rec),∀ r∈x.wv,r∈(fpOf ops A x.o x.v x.δ).wv:=fun A x r hr=>by
  simp only [fpOf,Rec.wv,List.mem_append] at hr ⊢
  exact hr.imp id .inr
 have ro:∀ (A:St) (x:Rec),∀ r∈x.ro,r∈(fpOf ops A x.o x.v x.δ).rr:=fun A x r hr=>by
  simp only [fpOf,Rec.ro,List.mem_append] at hr ⊢
  exact .inr (.inr hr)
 have vo:∀ (A:St) (x:Rec),∀ r∈x.vo,r∈(fpOf ops A x.o x.v x.δ).pm:=fun A x r hr=>by
  simp only [fpOf,Rec.vo,List.mem_append] at hr ⊢
  exact .inr (.inr hr)
 exact ⟨h.dd,fun r hr hm=>h.r2 r (wr A x r hr) (wr B y r hm),fun r hr hm=>h.v2 r (wv A x r hr) (wv B y r hm),fun r hr hm=>h.r1 r (wr A x r hr) (ro B y r hm),fun r hr hm=>h.k1 r hr (vo B y r hm),
  fun r hr hm=>h.r3 r (ro A x r hm) (wr B y r hr),fun r hr hm=>h.k2 r (vo A x r hm) hr⟩
variable {e0:Lk} {γ0:Gh} {w0:World}
def dstsOn (L:Nat->Bool):Nat->List Oper->List Nat
 | _,[]=>[]
 | n,o::l=>(bif L n then (match o.dst with | some d=>[d] | none=>[]) else [])++dstsOn L (n+1) l
theorem dstsOn_mem {L:Nat->Bool} {t:Nat}:∀ {l:List Oper} {n:Nat},t∈dstsOn L n l↔∃ (k:Nat) (o:Oper),l[k]? =some o/\L (n+k)=true/\o.dst=some t
 | [],n=>by simp [dstsOn]
 | o::l,n=>by
  simp only [dstsOn,List.mem_append,dstsOn_mem (l:=l)]
  constructor
  ·rintro (h | ⟨k,o',h1,h2,h3⟩)
   ·cases hL:L n with
    | false=>rw [hL] at h; simp at h
    | true =>
     rw [hL] at h
     cases ho:o.dst with
     | none=>rw [ho] at h; simp at h
     | some d=>rw [ho] at h; simp at h; exact ⟨0,o,rfl,by simpa using hL,by rw [ho,h]⟩
   ·exact ⟨k+1,o',by simpa using h1,by rw [← h2]; congr 1; omega,h3⟩
  ·rintro ⟨k,o',h1,h2,h3⟩
   cases k with
   | zero=>simp at h1; subst h1; rw [Nat.add_zero] at h2; rw [h2,h3]; exact .inl (by simp)
   | succ k=>exact .inr ⟨k,o',by simpa using h1,by rw [← h2]; congr 1; omega,h3⟩
theorem dsts_inj:∀ {l:List Oper},(dsts l).Nodup->∀ (i j:Nat) (a b:Oper) (t:Nat),l[i]? =some a->l[j]? =some b->a.dst=some t->b.dst=some t->i=j
 | [],_,i,_,_,_,_,h,_,_,_=>by simp at h
 | o::l,hn,i,j,a,b,t,hi,hj,ha,hb=>by
  have hn':(dsts l).Nodup:=by
   simp only [dsts] at hn
   cases ho:o.dst with
   | none=>rwa [ho] at hn
   | some d=>rw [ho] at hn; exact (List.nodup_cons.1 hn).2
  have hno:∀ {k:Nat} {x:Oper},o.dst=some t->l[k]? =some x->x.dst=some t->False:=by
   intro k x ho hx hxt
   simp only [dsts,ho] at hn
   exact (List.nodup_cons.1 hn).1 (dsts_mem.2 ⟨x,List.mem_of_getElem? hx,hxt⟩)
  cases i with
  | zero =>
   simp at hi; subst hi
   cases j with
   | zero=>rfl
   | succ j=>exact (hno ha (by simpa using hj) hb).elim
  | succ i =>
   cases j with
   | zero=>simp at hj; subst hj; exact (hno hb (by simpa using hi) ha).elim
   | succ j=>rw [dsts_inj hn' i j a b t (by simpa using hi) (by simpa using hj) ha hb]
theorem draw_ok (r0:R) (hX:CtxOk X) (hE:EnvOk X E) {a:Act} {w:World} (hr:RegOk X ops) {s':St} {fp':List Fp} (hK:∀ K:St×List Fp->Option R,(execOps X E ops true ops.toList S [] fun s f=>K (s,f))=K (s',fp'))
  (hel:edgeLt 0 ops.toList=true) (hga:gdAnc (ancs [] ops.toList) 0 ops.toList=true) (hap:apartAll (ancs [] ops.toList) 0 [] fp'=true)
  (hgf:gfree S) (hI:Inv X e0 γ0 w0 S γ a w)
  {Q:Exit->Act->World->Prop} (hQ:∀ γ' a' w',Inv X e0 γ0 w0 s' γ' a' w'->Q .normal a' w') :
  wpAny X.P .any ops Q ops.size (Array.replicate ops.size false) a w:=by
 obtain ⟨rs,hrs,htr,rfl,rfl⟩:=trace r0 hE.uni _ _ _ hK
 have hlen:rs.length=ops.size:=by have:=congrArg List.length hrs; simpa using this
 have hop:∀ (i:Nat) (x:Rec),rs[i]? =some x->ops[i]? =some x.o:=by
  intro i x hx
  have:(rs.map (·.o))[i]? =some x.o:=by rw [List.getElem?_map,hx]; rfl
  rw [hrs] at this; simpa using this
 have hro:∀ (i:Nat) (o:Oper),ops[i]? =some o->∃ x,rs[i]? =some x/\x.o=o:=by
  intro i o ho
  have:(rs.map (·.o))[i]? =some o:=by rw [hrs]; simpa using ho
  rw [List.getElem?_map] at this
  cases hx:rs[i]? with
  | none=>rw [hx] at this; cases this
  | some x=>rw [hx] at this; simp at this; exact ⟨x,rfl,this⟩
 let A:=ancs [] ops.toList
 have hfp:∀ (i j:Nat) (x y:Rec),rs[i]? =some x->rs[j]? =some y->i<j->i∉getL A j->ApS (fpOf ops (stI S rs i) x.o x.v x.δ) (fpOf ops (stI S rs j) y.o y.v y.δ):=by
  intro i j x y hx hy hij hn
  have h0:apartAll A (List.length ([]:List Fp)) [] (fpsL ops S rs)=true:=by simpa using hap
  exact apart_spec (apartAll_get h0 i j _ _ (by simpa using fpsL_get rs S i x hx) (fpsL_get rs S j y hy) (by simpa using hij) (by simpa using hn))
 have hA:∀ (j x:Nat) (o:Oper),ops[j]? =some o->x∈getL A j->∃ e∈edgesL o.after.toList,x=e\/x∈getL A e:=by
  intro j x o ho hx
  exact ancs_mem (l:=ops.toList) (acc:=[]) (k:=j) (by simpa using ho) (by simpa using hx)
 have main:∀ (fuel:Nat) (listed:Array Bool) (γ:Gh) (a:Act) (w:World),listed.size=ops.size->((List.range ops.size).filter fun k=> !listed.getD k true).length<=fuel ->
   (∀ j,listed.getD j true=true->j<ops.size->∀ x∈getL A j,listed.getD x true=true) ->
   Inv X e0 γ0 w0 (stD (fun k=>listed.getD k true) 0 S rs) γ a w->GInv (dstsOn (fun k=>listed.getD k true) 0 ops.toList) (stD (fun k=>listed.getD k true) 0 S rs) a ->
   wpAny X.P .any ops Q fuel listed a w:=by
  intro fuel
  induction fuel with
  | zero =>
   intro listed γ a w hsz hU hC hI hG
   have hall:∀ k,k<ops.size->listed.getD k true=true:=by
    intro k hk
    have hnil:(List.range ops.size).filter (fun k=> !listed.getD k true)=[]:=List.length_eq_zero_iff.1 (Nat.le_zero.1 hU)
    have:=List.filter_eq_nil_iff.1 hnil k (List.mem_range.2 hk)
    simpa using this
   refine ⟨List.eq_nil_iff_forall_not_mem.2 fun j hj=> ?_,hQ γ a w ?_⟩
   ·obtain ⟨h1,o,ho,_⟩:=mem_ready.1 hj
    rw [hall j (Array.getElem?_eq_some_iff.1 ho).1] at h1; cases h1
   ·rw [← stD_all (L:=fun k=>listed.getD k true) rs 0 S fun k _ hk=>hall k (by omega)]; exact hI
  | succ fuel ih =>
   intro listed γ a w hsz hU hC hI hG
   refine ⟨fun hnil=>hQ γ a w ?_,fun i hi=> ?_⟩
   ·have hall:∀ n,∀ k,k<n->k<ops.size->listed.getD k true=true:=by
     intro n
     induction n with
     | zero=>intro k hk; omega
     | succ n ihn =>
      intro k hk hks
      rcases Nat.lt_or_ge k n with h | h
      ·exact ihn k h hks
      ·have hkn:k=n:=by omega
       subst hkn
       cases hl:listed.getD k true with
       | true=>rfl
       | false =>
        exfalso
        have:k∈Region.ready .any ops listed:=by
         refine mem_ready.2 ⟨hl,ops[k],Array.getElem?_eq_getElem hks,fun e he hb=> ?_⟩
         have hm:e.on∈edgesL (ops[k]).after.toList:=edgesL_mem.2 ⟨e,by simpa using he,by rw [← bindsE_any]; exact hb,rfl⟩
         have hlt:=edgeLt_get hel k ops[k] (by simp [hks]) e.on hm
         rw [Nat.zero_add] at hlt
         have:=ihn e.on hlt (by omega)
         have hsz2:e.on<listed.size:=by omega
         rw [Array.getD_eq_getD_getElem?,Array.getElem?_eq_getElem hsz2] at this ⊢
         exact this
        rw [hnil] at this; cases this
    rw [← stD_all (L:=fun k=>listed.getD k true) rs 0 S fun k _ hk=>hall ops.size k (by omega) (by omega)]; exact hI
   ·obtain ⟨hun,o,ho,hedge⟩:=mem_ready.1 hi
    have his:i<ops.size:=(Array.getElem?_eq_some_iff.1 ho).1
    obtain ⟨x,hx,hxo⟩:=hro i o ho
    subst hxo
    let L:Nat->Bool:=fun k=>listed.getD k true
    have hLi:L i=false:=hun
    have hanc:∀ y∈getL A i,L y=true:=by
     intro y hy
     obtain ⟨e,he,hye⟩:=hA i y x.o ho hy
     obtain ⟨d,hd,hb,rfl⟩:=edgesL_mem.1 he
     have hld:=hedge d (by simpa using hd) (by rw [bindsE_any]; exact hb)
     have hlt:d.on<i:=by have:=edgeLt_get hel i x.o (by simpa using ho) d.on he; omega
     have hsz2:d.on<listed.size:=by omega
     have hld2:listed.getD d.on true=true:=by
      rw [Array.getD_eq_getD_getElem?,Array.getElem?_eq_getElem hsz2] at hld ⊢; exact hld
     rcases hye with rfl | hye
     ·exact hld2
     ·exact hC d.on hld2 (by omega) y hye
    let T:=stD L 0 S rs
    let S':=(stI S rs i).cut ops x.o
    have hsplit:rs=rs.take i++x::rs.drop (i+1):=by
     have hi':i<rs.length:=by omega
     have:rs.drop i=x::rs.drop (i+1):=by
      rw [List.drop_eq_getElem_cons hi']
      congr 1
      have:=List.getElem?_eq_getElem hi'
      rw [hx] at this; exact (Option.some.inj this).symm
     rw [← this,List.take_append_drop]
    have htk:(rs.take i).length=i:=by simp; omega
    have hagr:Agr (rdT ops x.o) (rdV (opAs ops (stI S rs i) x.o)) (rdR (stI S rs i) (opAs ops (stI S rs i) x.o)) (stI S rs i) T:=by
     show Agr _ _ _ _ (stD L 0 S rs)
     rw [hsplit,stD_append,htk]
     simp only [Nat.zero_add,stD,hLi,cond_false]
     rw [← hsplit]
     refine agr_suf L _ _ _ _ (agr_pre L (rs.take i) 0 S S ⟨fun _ _=>rfl,fun _ _=>rfl,fun _ _=>rfl⟩ fun k y hk hL=> ?_) fun k y hk hL=> ?_
     ·have hki:k<i:=by have:=(List.getElem?_eq_some_iff.1 hk).1; omega
      have hk2:rs[k]? =some y:=by rw [List.getElem?_take,if_pos hki] at hk; exact hk
      rw [Nat.zero_add] at hL
      have hn:k∉getL A i:=fun hm=>by have:=hanc k hm; rw [hL] at this; cases this
      have:=Off.ahead (hfp k i y x hk2 hx hki hn)
      rw [List.take_take,Nat.min_eq_left (Nat.le_of_lt hki)]
      exact this
     ·have hk2:rs[i+1+k]? =some y:=by rw [List.getElem?_drop] at hk; exact hk
      have hlt:i+1+k<ops.size:=by have:=(List.getElem?_eq_some_iff.1 hk2).1; omega
      have hn:i∉getL A (i+1+k):=fun hm=>by have:=hC (i+1+k) hL hlt i hm; rw [hun] at this; cases this
      exact Off.behind (hfp i (i+1+k) x y hx hk2 (by omega) hn)
    have hm:Le S'.lk T.lk:=by
     refine ⟨fun k row hk=> ?_,fun k cs hk=> ?_⟩
     ·have hk:lk (cutL (rdR (stI S rs i) (opAs ops (stI S rs i) x.o)) (stI S rs i).rs) k=some row:=hk
      rw [lk_cutL] at hk
      split at hk
      ·rename_i hmem; rw [← hagr.r k hmem]; exact hk
      ·cases hk
     ·have hk:lk (cutL (rdV (opAs ops (stI S rs i) x.o)) (stI S rs i).vs) k=some cs:=hk
      rw [lk_cutL] at hk
      split at hk
      ·rename_i hmem; rw [← hagr.v k hmem]; exact hk
      ·cases hk
    have ht:∀ t av,lk S'.tm t=some av->lk T.tm t=some av:=by
     intro t av hk
     have hk:lk (cutL (rdT ops x.o) (stI S rs i).tm) t=some av:=hk
     rw [lk_cutL] at hk
     split at hk
     ·rename_i hmem; rw [← hagr.t t hmem]; exact hk
     ·cases hk
    have hol:ops.toList[i]? =some x.o:=by simpa using ho
    have hdl:∀ d,x.o.dst=some d->d<X.nt:=fun d hd=>hr.lt d (dsts_mem.2 ⟨x.o,List.mem_of_getElem? hol,hd⟩)
    have hgd:∀ j w,x.o.guard=some (j,w)->∀ oj t,ops[j]? =some oj->oj.dst=some t->t∈dstsOn L 0 ops.toList:=by
     intro j w hg oj t hj ht
     have hm:=gdAnc_get hga i x.o hol j w hg
     rw [Nat.zero_add] at hm
     exact dstsOn_mem.2 ⟨j,oj,by simpa using hj,by rw [Nat.zero_add]; exact hanc j hm,ht⟩
    have hdn:∀ d,x.o.dst=some d->d∉dstsOn L 0 ops.toList:=by
     intro d hd hmem
     obtain ⟨k,ok,h1,h2,h3⟩:=dstsOn_mem.1 hmem
     have:=dsts_inj hr.nd k i ok x.o d h1 hol h3 hd
     subst this
     rw [Nat.zero_add,hLi] at h2; cases h2
    let listed':=listed.setIfInBounds i true
    have hget':∀ k,listed'.getD k true=(L k||Nat.beq k i):=by
     intro k
     by_cases hki:i=k
     ·subst hki
      have:i<listed.size:=by omega
      have hb:Nat.beq i i=true:=Nat.beq_refl i
      rw [hb,Bool.or_true]
      show (listed.setIfInBounds i true).getD i true=true
      simp [this]
     ·have hb:Nat.beq k i=false:=by cases h:Nat.beq k i; rfl; exact absurd (nat_beq h).symm hki
      rw [hb,Bool.or_false]
      exact getD_set_ne true hki
    have hEq:Eqv (app1 T x) (stD (fun k=>listed'.getD k true) 0 S rs):=by
     have hag:∀ k,k≠i->L k=listed'.getD k true:=by
      intro k hk
      have hb:Nat.beq k i=false:=by cases h:Nat.beq k i; rfl; exact absurd (nat_beq h) hk
      rw [hget',hb,Bool.or_false]
     have e1:stD (fun k=>listed'.getD k true) 0 S rs=stD L (i+1) (app1 (stD L 0 S (rs.take i)) x) (rs.drop (i+1)):=by
      rw [hsplit,stD_append,htk]
      simp only [Nat.zero_add,stD]
      rw [← hsplit,hget' i,Nat.beq_refl,Bool.or_true,cond_true]
      rw [stD_congr (L:=fun k=>listed'.getD k true) (L':=L) (rs.drop (i+1)) (i+1) _ fun k h1 _=>(hag k (by omega)).symm]
      rw [stD_congr (L:=fun k=>listed'.getD k true) (L':=L) (rs.take i) 0 S fun k _ h2=>(hag k (by rw [htk] at h2; omega)).symm]
     have e2:T=stD L (i+1) (stD L 0 S (rs.take i)) (rs.drop (i+1)):=by
      show stD L 0 S rs=_
      conv=>lhs; rw [hsplit]
      rw [stD_append,htk]
      simp only [Nat.zero_add,stD,hLi,cond_false]
     rw [e1,e2]
     refine (stD_last L x (rs.drop (i+1)) (i+1) _ fun k y hk hL=> ?_).symm
     have hk2:rs[i+1+k]? =some y:=by rw [List.getElem?_drop] at hk; exact hk
     have hlt:i+1+k<ops.size:=by have:=(List.getElem?_eq_some_iff.1 hk2).1; omega
     have hn:i∉getL A (i+1+k):=fun hm=>by have:=hC (i+1+k) hL hlt i hm; rw [hun] at this; cases this
     exact Apt.of (hfp i (i+1+k) x y hx hk2 (by omega) hn)
    have hU':((List.range ops.size).filter fun k=> !listed'.getD k true).length<=fuel:=by
     have h1:((List.range ops.size).filter fun k=> !listed'.getD k true)=((List.range ops.size).filter fun k=> !listed.getD k true).filter fun k=> !Nat.beq k i:=by
      rw [List.filter_filter]
      refine List.filter_congr fun k _=> ?_
      rw [hget']
      show (!(listed.getD k true||Nat.beq k i))=_
      cases listed.getD k true<;>cases Nat.beq k i<;>rfl
     rw [h1]
     have hmem:i∈(List.range ops.size).filter fun k=> !listed.getD k true:=List.mem_filter.2 ⟨List.mem_range.2 his,by rw [hun]; rfl⟩
     have:=List.length_filter_lt_length_iff_exists (l:=(List.range ops.size).filter fun k=> !listed.getD k true) (p:=fun k=> !Nat.beq k i) |>.2 ⟨i,hmem,by simp [Nat.beq_refl]⟩
     omega
    have hC':∀ j,listed'.getD j true=true->j<ops.size->∀ y∈getL A j,listed'.getD y true=true:=by
     intro j hj hjs y hy
     rw [hget'] at hj ⊢
     by_cases hji:j=i
     ·subst hji; rw [hanc y hy]; rfl
     ·have hb:Nat.beq j i=false:=by cases h:Nat.beq j i; rfl; exact absurd (nat_beq h) hji
      rw [hb,Bool.or_false] at hj
      have:=hC j hj hjs y hy
      show (listed.getD y true||Nat.beq y i)=true
      rw [this]; rfl
    have hop2:=op_ok r0 hX hE hI.rel hI.top hI.tmp hG hm ht hr.nt hdl hgd (v:=x.v) (δ:=x.δ) (p:=x.p) (q:=x.q) (fun K=>htr i x hx K) (next:=fun _ _=>True) (Q:=Q) (fun _ _ _ _ _=>trivial)
    have hgp:=hop2.1
    have hfin:=(op_ok r0 hX hE hI.rel hI.top hI.tmp hG hm ht hr.nt hdl hgd (v:=x.v) (δ:=x.δ) (p:=x.p) (q:=x.q) (fun K=>htr i x hx K) (next:=wpAny X.P .any ops Q fuel listed') (Q:=Q) fun γ' w' u hst hu=>by
     refine ih listed' γ' (a.put x.o.dst u) w' (by simp [listed',hsz]) hU' hC' ((hI.step hst hdl hu).eqv hEq) ?_
     refine GInv.eqv ?_ hEq
     refine hG.step (fun t ht=> ?_) (fun d hd=>⟨hdn d hd,Nat.lt_of_lt_of_le (hdl d hd) hI.tmp.1⟩) hgp
     obtain ⟨k,ok,h1,h2,h3⟩:=dstsOn_mem.1 ht
     refine dstsOn_mem.2 ⟨k,ok,h1,?_,h3⟩
     rw [Nat.zero_add] at h2 ⊢
     rw [hget']
     show (listed.getD k true||Nat.beq k i)=true
     rw [h2]; rfl).2
    simp only [wpOp,ho]
    cases hw:Region.wanted x.o (yielded ops a.tmps) with
    | true=>rw [hw] at hfin; simp only [if_true] at hfin ⊢; exact .inl hfin
    | false=>rw [hw] at hfin; simpa using hfin
 have hL0:∀ k,k<ops.size->(Array.replicate ops.size false).getD k true=false:=by
  intro k hk; simp [hk]
 have e0':stD (fun k=>(Array.replicate ops.size false).getD k true) 0 S rs=S:=stD_none rs 0 S fun k _ hk=>hL0 k (by omega)
 refine main ops.size (Array.replicate ops.size false) γ a w (by simp) (Nat.le_trans (List.length_filter_le _ _) (by simp)) (fun j hj hjs=>by rw [hL0 j hjs] at hj; cases hj) (by rw [e0']; exact hI) ?_
 rw [e0']
 have hd0:dstsOn (fun k=>(Array.replicate ops.size false).getD k true) 0 ops.toList=[]:=by
  refine List.eq_nil_iff_forall_not_mem.2 fun t ht=> ?_
  obtain ⟨k,o,h1,h2,_⟩:=dstsOn_mem.1 ht
  have:k<ops.size:=by have:=(List.getElem?_eq_some_iff.1 h1).1; simpa using this
  rw [Nat.zero_add,hL0 k this] at h2; cases h2
 rw [hd0]
 exact gfree_GInv hgf
end
end Go.Soft
namespace Go.Soft
open Go
variable {X:Ctx} {m M:Lk} {γ γ':Gh} {w w':World} {ρ:Operand->Value} {S T:St} {δ δ':Dl}
section
variable {R:Type} {E:Env R} {ops:Array Oper} {e0:Lk} {γ0:Gh} {w0:World} {a:Act}
theorem Inv.drawn (h:Inv X e0 γ0 w0 S γ a w) (n:Nat):Inv X e0 γ0 w0 S γ a { w with drawn:=n }:=by
 refine ⟨⟨h.rel.vs,fun k row hk=>row_same (h.rel.rs k row hk) fun g o hg _=>⟨hg,rfl⟩⟩,h.top,h.tmp,h.df,⟨h.fr.os,h.fr.tape,h.fr.output,h.fr.size,h.fr.blk,h.fr.top⟩,h.i3,h.i4,h.i2⟩
def regK (ops:Array Oper) (draw:Bool) (K:St->Option R) (x:St×List Fp):Option R:=match draw with
 | false=>K ⟨dropGs x.1.tm,x.1.vs,x.1.rs⟩
 | true=>match edgeLt 0 ops.toList&&(gdAnc (ancs [] ops.toList) 0 ops.toList&&apartAll (ancs [] ops.toList) 0 [] x.2) with
  | true=>K ⟨dropGs x.1.tm,x.1.vs,x.1.rs⟩
  | false=>Option.none
theorem reg_ok (r0:R) (hX:CtxOk X) (hE:EnvOk X E) {id:Nat} {draw:Bool} {s':St} (hK:∀ K:St->Option R,execReg X E ops draw S K=K s') (hgf:gfree S) (hI:Inv X e0 γ0 w0 S γ a w)
  {Q:Exit->Act->World->Prop} (hQ:gfree s'->∀ γ' a' w',Inv X e0 γ0 w0 s' γ' a' w'->Q .normal a' w'):(Code.region id ops draw).wp X.P Q a w:=by
 simp only [execReg] at hK
 cases hc:nodupN (dsts ops.toList)&&(allLt X.nt (dsts ops.toList)&&(Nat.ble X.nt 1500&&gdLt 0 ops.toList)) with
 | false=>simp only [hc] at hK; exact (ev_none r0 hK).elim
 | true =>
  simp only [hc] at hK
  have hr:=regOk hc
  obtain ⟨oc,hoc⟩:=execOps_uni (X:=X) hE.uni ops draw ops.toList S []
  cases oc with
  | none =>
   refine False.elim (ev_none r0 (α:=St) (y:=s') fun K=> ?_)
   have h1:=hK K
   have h2:=hoc (regK ops draw K)
   exact h2.symm.trans h1
  | some x =>
   obtain ⟨s1,fp1⟩:=x
   have hKs:∀ K:St×List Fp->Option R,(execOps X E ops draw ops.toList S [] fun s f=>K (s,f))=K (s1,fp1):=fun K=>hoc K
   cases draw with
   | false =>
    have hs:s'=⟨dropGs s1.tm,s1.vs,s1.rs⟩:=(ev_inj r0 fun K=>(by
     have h1:=hK K
     have h2:=hoc fun x=>K ⟨dropGs x.1.tm,x.1.vs,x.1.rs⟩
     exact h1.symm.trans h2))
    refine wp_region ?_
    have:=seq_ok r0 hX hE hr (Q:=Q) (s':=s1) (fp':=fp1) (fun γ' a' w' hI'=>hQ (hs▸gfree_drop s1) γ' a' w' (hs▸hI'.drop)) ops.toList [] S γ a w [] (by simp) hI (gfree_GInv hgf) hKs
    rw [List.range_eq_range']
    simpa using this
   | true =>
    have hs:(edgeLt 0 ops.toList&&(gdAnc (ancs [] ops.toList) 0 ops.toList&&apartAll (ancs [] ops.toList) 0 [] fp1))=true/\s'=⟨dropGs s1.tm,s1.vs,s1.rs⟩:=by
     cases hc2:edgeLt 0 ops.toList&&(gdAnc (ancs [] ops.toList) 0 ops.toList&&apartAll (ancs [] ops.toList) 0 [] fp1) with
     | false =>
      refine False.elim (ev_none r0 (α:=St) (y:=s') fun K=> ?_)
      have h1:=hK K
      have h2:=hoc fun x=>match edgeLt 0 ops.toList&&(gdAnc (ancs [] ops.toList) 0 ops.toList&&apartAll (ancs [] ops.toList) 0 [] x.2) with
       | true=>K ⟨dropGs x.1.tm,x.1.vs,x.1.rs⟩
       | false=>Option.none
      have h3:=h2.symm.trans h1
      simp only [Option.bind_some,hc2] at h3
      exact h3
     | true =>
      refine ⟨rfl,ev_inj r0 fun K=> ?_⟩
      have h1:=hK K
      have h2:=hoc fun x=>match edgeLt 0 ops.toList&&(gdAnc (ancs [] ops.toList) 0 ops.toList&&apartAll (ancs [] ops.toList) 0 [] x.2) with
       | true=>K ⟨dropGs x.1.tm,x.1.vs,x.1.rs⟩
       | false=>Option.none
      have h3:=h1.symm.trans h2
      simp only [Option.bind_some,hc2] at h3
      exact h3
    obtain ⟨hc2,hs⟩:=hs
    simp only [Bool.and_eq_true] at hc2
    exact wp_region_any hX.mixed (draw_ok r0 hX hE hr hKs hc2.1 hc2.2.1 hc2.2.2 hgf (hI.drawn _) fun γ' a' w' hI'=>hQ (hs▸gfree_drop s1) γ' a' w' (hs▸hI'.drop))
end
structure InvW (X:Ctx) (γ0:Gh) (w0:World) (S:St) (γ:Gh) (a:Act) (w:World):Prop where
 rel:Rel X S.lk γ w
 top:∀ g,w.heap.size<=g->γ.O g=none
 tmp:RelT X S γ a
 df:a.defers=[]
 fr:Fr γ0.O w0 γ.O w
 i4:∀ k,200000<=k->k<300000->γ.rv k=γ0.rv k
 i2:∀ k,k<1000->γ.vb k=γ0.vb k
def I3 (e0:Lk) (γ0:Gh) (S:St) (γ:Gh):Prop:=∀ k row,100000<=k->k<400000->S.lk.r k=some row->row.ow=1->e0.r k=some row/\γ.rv k=γ0.rv k/\γ.cv k=γ0.cv k
theorem Inv.weak {e0:Lk} {γ0:Gh} {w0:World} {a:Act} (h:Inv X e0 γ0 w0 S γ a w):InvW X γ0 w0 S γ a w:=⟨h.rel,h.top,h.tmp,h.df,h.fr,h.i4,h.i2⟩
theorem InvW.inv {e0:Lk} {γ0:Gh} {w0:World} {a:Act} (h:InvW X γ0 w0 S γ a w) (h3:I3 e0 γ0 S γ):Inv X e0 γ0 w0 S γ a w:=⟨h.rel,h.top,h.tmp,h.df,h.fr,h3,h.i4,h.i2⟩
theorem invW_empty {γ0:Gh} {w0:World} {a:Act} (h:InvW X γ0 w0 S γ a w):InvW X γ0 w0 ⟨[],[],[]⟩ γ a w :=
 ⟨⟨fun k cs hk=>(by cases hk),fun k row hk=>(by cases hk)⟩,h.top,⟨h.tmp.1,fun t av ht=>(by cases ht)⟩,h.df,h.fr,h.i4,h.i2⟩
theorem RowR.relabelX {a:Rb} {O O':OM} {r k d:Nat} {row:Row} {v:Value} {cs:List Value} (h:RowR X O w r row v cs) (ha:ownK row.ow=true->a.r r=some (k,d)) (hle:leK d row.ow=true\/(d=row.ow/\ownK row.ow=false/\row.ow≠3))
  (hb:∀ g o,w.heap[g]? =some o->InR r row.ow (O g)->w'.heap[g]? =some o/\O' g=(O g).bind a.f):RowR X O' w' k { row with ow:=d } v cs:=by
 rcases hle with hle | ⟨rfl,ho,h3⟩
 ·exact h.relabel ha hle hb
 ·obtain ⟨τ,xs,ow⟩:=row
  simp only at ho h3 ⊢
  have hnot:ow≠4/\ow≠5:=by constructor<;>(rintro rfl; simp [ownK] at ho)
  have tc:∀ k,topC k ow= .bor:=by
   intro k; simp only [topC,ho]
   try (split<;>first | exact absurd rfl h3 | rfl)
  have nc:∀ k e c,nesC k e c ow= .bor:=by
   intro k e c; simp only [nesC]
   try (split<;>first | rfl | (exfalso; omega))
  have cl:∀ g,In .bor (O g)->In .bor ((O g).bind a.f):=by
   intro g hg
   rcases hg with hg | hg<;>rw [hg]
   ·exact .inl rfl
   ·exact .inr rfl
  refine ⟨h.top.re (c':=topC k ow) (fun g o hg hi=> ?_) (by rw [tc]; exact fun h=>(by cases h)),fun e c ct he hc=> ?_⟩
  ·obtain ⟨h1,h2⟩:=hb g o hg (.inl hi); simp only [tc] at hi; exact ⟨h1,by rw [h2,tc]; exact cl g hi⟩
  ·obtain ⟨u,hu,hr⟩:=h.cel e c ct he hc
   exact ⟨u,hu,hr.re (c':=nesC k e c ow) (fun g o hg hi=>by obtain ⟨h1,h2⟩:=hb g o hg (.inr ⟨e,c,hi⟩); simp only [nc] at hi; exact ⟨h1,by rw [h2,nc]; exact cl g hi⟩) (by rw [nc]; exact fun h=>(by cases h))⟩
structure Ren (S T:St) (μ:Nat->Option Nat) (κ:Nat->Nat) (f:Cv->Cv):Prop where
 inj:∀ r r' k,μ r=some k->μ r'=some k->r=r'
 r1:∀ k row',T.lk.r k=some row'->∃ r row,μ r=some k/\S.lk.r r=some row/\row'={ row with ow:=κ r }
 r2:∀ r k row,μ r=some k->S.lk.r r=some row->T.lk.r k=some { row with ow:=κ r }
 kk:∀ r k row,μ r=some k->S.lk.r r=some row->leK (κ r) row.ow=true\/(κ r=row.ow/\ownK row.ow=false/\row.ow≠3)
 v1:∀ k cs',T.lk.v k=some cs'->∃ cs,S.lk.v k=some cs/\cs'=cs.map f
 t1:∀ t av',lk T.tm t=some av'->∃ av,lk S.tm t=some av/\av'=mapV f av
 fu:f .un= .un
 fr:∀ x,f x= .un\/(f x=x/\x.row=none/\∀ k∈x.vk,∀ cs,S.lk.v k=some cs->∃ cs',T.lk.v k=some cs')\/∃ r k,μ r=some k /\
  ((x= .sw r/\f x= .sw k)\/(∃ o n,x= .sl r o n/\f x= .sl k o n)\/(∃ e c,x= .nw r e c/\f x= .nw k e c)\/(∃ e c o n,x= .ns r e c o n/\f x= .ns k e c o n) \/
   (∃ e c,x= .pe r e c/\f x= .pe k e c)\/∃ e c o n,x= .pn r e c o n/\f x= .pn k e c o n)
 i4:∀ r k,μ r=some k->200000<=k->k<300000->r=k
theorem Ren.ok {γ0:Gh} {w0:World} {a:Act} {μ:Nat->Option Nat} {κ:Nat->Nat} {f:Cv->Cv} (hn:Ren S T μ κ f) (h:InvW X γ0 w0 S γ a w) :
  ∃ γ',InvW X γ0 w0 T γ' a w/\∀ r k row,μ r=some k->S.lk.r r=some row->γ'.rv k=γ.rv r/\γ'.cv k=γ.cv r:=by
 classical
 let rb:Rb:=⟨fun r=>match μ r,S.lk.r r with | some k,some _=>some (k,κ r) | _,_=>none,none,fun k=>some (.v k)⟩
 let pre:Nat->Nat:=fun k=>if hk:∃ r,μ r=some k then Classical.choose hk else k
 have hpre:∀ r k,μ r=some k->pre k=r:=by
  intro r k hr
  have hk:∃ r,μ r=some k:=⟨r,hr⟩
  show (if hk:∃ r,μ r=some k then Classical.choose hk else k)=r
  rw [dif_pos hk]
  exact hn.inj _ _ k (Classical.choose_spec hk) hr
 let γ':Gh:=⟨fun g=>(γ.O g).bind rb.f,fun k=>γ.rv (pre k),fun k=>γ.cv (pre k),γ.vb⟩
 have hval:∀ r k,μ r=some k->γ'.rv k=γ.rv r/\γ'.cv k=γ.cv r:=by
  intro r k hr
  exact ⟨by show γ.rv (pre k)=_; rw [hpre r k hr],by show γ.cv (pre k)=_; rw [hpre r k hr]⟩
 have keep:∀ x v,RelC S.lk γ x v->RelC T.lk γ' (f x) v:=by
  intro x v hx
  rcases hn.fr x with he | ⟨he,hrow,hvk⟩ | ⟨r,k,hr,hc⟩
  ·rw [he]; exact hx.one h.rel
  ·rw [he]
   refine hx.re (fun r hr=>by rw [hrow] at hr; cases hr) (fun r hr=>by rw [hrow] at hr; cases hr) fun k hk=>⟨hvk k hk,rfl⟩
  ·obtain ⟨h1,h2⟩:=hval r k hr
   rcases hc with ⟨rfl,he⟩ | ⟨o,n,rfl,he⟩ | ⟨e,c,rfl,he⟩ | ⟨e,c,o,n,rfl,he⟩ | ⟨e,c,rfl,he⟩ | ⟨e,c,o,n,rfl,he⟩<;>rw [he]
   ·obtain ⟨⟨row,hrow⟩,hv⟩:=hx
    exact ⟨⟨_,hn.r2 r k row hr hrow⟩,by rw [h1]; exact hv⟩
   ·obtain ⟨row,hrow,hle,hs⟩:=hx
    exact ⟨_,hn.r2 r k row hr hrow,hle,by rw [h1]; exact hs⟩
   ·obtain ⟨row,τ,ys,hrow,hle,hs,hu⟩:=hx
    exact ⟨_,τ,ys,hn.r2 r k row hr hrow,hle,hs,by rw [h2]; exact hu⟩
   ·obtain ⟨row,τ,ys,u,hrow,hle,hs,hu,h5,h6⟩:=hx
    exact ⟨_,τ,ys,u,hn.r2 r k row hr hrow,hle,hs,by rw [h2]; exact hu,h5,h6⟩
   ·obtain ⟨row,hrow,hle,hs⟩:=hx
    exact ⟨_,hn.r2 r k row hr hrow,hle,by rw [h1]; exact hs⟩
   ·obtain ⟨row,τ,ys,u,hrow,hle,hs,hu,h5,h6⟩:=hx
    exact ⟨_,τ,ys,u,hn.r2 r k row hr hrow,hle,hs,by rw [h2]; exact hu,h5,h6⟩
 refine ⟨γ',⟨⟨fun k cs' hk=> ?_,fun k row' hk=> ?_⟩,fun g hg=> ?_,⟨h.tmp.1,fun t av' ht=> ?_⟩,h.df,⟨h.fr.os,h.fr.tape,h.fr.output,h.fr.size,fun g hg ho=> ?_,fun g hg=> ?_⟩,fun k h1 h2=> ?_,h.i2⟩,fun r k row hr _=>hval r k hr⟩
 ·obtain ⟨cs,hcs,rfl⟩:=hn.v1 k cs' hk
  obtain ⟨h1,cur,e,h2,h3⟩:=h.rel.vs k cs hcs
  exact ⟨by show (γ.O (γ.vb k)).bind rb.f=_; rw [h1]; rfl,cur,e,h2,h3.map keep⟩
 ·obtain ⟨r,row,hr,hrow,rfl⟩:=hn.r1 k row' hk
  obtain ⟨h1,h2⟩:=hval r k hr
  rw [h1,h2]
  refine (h.rel.rs r row hrow).relabelX (a:=rb) (O':=γ'.O) (k:=k) (d:=κ r) (fun _=> ?_) (hn.kk r k row hr hrow) fun g o hg _=>⟨hg,rfl⟩
  show (match μ r,S.lk.r r with | some k,some _=>some (k,κ r) | _,_=>none)=_
  rw [hr,hrow]
 ·show (γ.O g).bind rb.f=none
  rw [h.top g hg]; rfl
 ·obtain ⟨av,hav,rfl⟩:=hn.t1 t av' ht
  exact (h.tmp.2 t av hav).map keep hn.fu
 ·obtain ⟨h1,h2⟩:=h.fr.blk g hg ho
  refine ⟨?_,h2⟩
  show (γ.O g).bind rb.f=_
  rw [h1]
  rcases ho with ho | ho | ho<;>rw [ho]<;>rfl
 ·show (γ.O g).bind rb.f=none
  rw [h.fr.top g hg]; rfl
 ·show γ.rv (pre k)=_
  by_cases hk:∃ r,μ r=some k
  ·obtain ⟨r,hr⟩:=hk
   rw [hpre r k hr,hn.i4 r k hr h1 h2]; exact h.i4 k h1 h2
  ·show γ.rv (if hk:∃ r,μ r=some k then Classical.choose hk else k)=_
   rw [dif_neg hk]; exact h.i4 k h1 h2
end Go.Soft
namespace Go.Soft
open Go
variable {X:Ctx} {m M:Lk} {γ γ':Gh} {w w':World} {ρ:Operand->Value} {S T:St} {δ δ':Dl}
theorem eqNs_eq:∀ {a b:List Nat},eqNs a b=true->a=b
 | [],[],_=>rfl
 | x::l,y::m,h=>by simp only [eqNs,Bool.and_eq_true] at h; rw [nat_beq h.1,eqNs_eq h.2]
 | [],_::_,h=>by simp [eqNs] at h
 | _::_,[],h=>by simp [eqNs] at h
theorem unC_ok {x:Cv} {sh:Sh} (h:eqSh (flC x).1 sh=true) (l:List Val):unC sh ((flC x).2++l)=some (x,l):=by
 cases x<;>cases sh<;>simp only [flC,eqSh,Bool.false_eq_true,Bool.and_eq_true] at h<;>simp only [flC,unC,List.cons_append,List.nil_append,Option.some.injEq,Prod.mk.injEq,and_true]
 case nl.nl a b=>rw [tEq_eq h]
 case sw.sw=>rw [nat_beq h]
 case sl.sl=>rw [nat_beq h]
 case nw.nw=>rw [nat_beq h.1,nat_beq h.2]
 case ns.ns=>rw [nat_beq h.1,nat_beq h.2]
 case pv.pv=>rw [nat_beq h.1,nat_beq h.2]
 case pe.pe=>rw [nat_beq h.1,nat_beq h.2]
 case pn.pn=>rw [nat_beq h.1,nat_beq h.2.1,nat_beq h.2.2]
 case fn.fn=>rw [nat_beq h.1,eqNs_eq h.2]
theorem unL_ok:∀ {x:List Cv} {sh:List Sh},eqL (flL x).1 sh=true->∀ l:List Val,unL sh ((flL x).2++l)=some (x,l)
 | [],[],_,l=>rfl
 | x::xs,a::b,h,l=>by
  simp only [flL,eqL,Bool.and_eq_true] at h
  simp only [flL,unL,List.append_assoc,unC_ok h.1,unL_ok h.2]
 | [],_::_,h,_=>by simp [flL,eqL] at h
 | _::_,[],h,_=>by simp [flL,eqL] at h
theorem unT_ok:∀ {x:List (Bool×List Cv)} {sh:List (Bool×List Sh)},eqTs (flT x).1 sh=true->∀ l:List Val,unT sh ((flT x).2++l)=some (x,l)
 | [],[],_,l=>rfl
 | (t,x)::xs,(u,a)::b,h,l=>by
  simp only [flT,eqTs,Bool.and_eq_true] at h
  have htu:t=u:=by cases t<;>cases u<;>simp_all
  simp only [flT,unT,List.append_assoc,unL_ok h.2.1,unT_ok h.2.2,htu]
 | [],_::_,h,_=>by simp [flT,eqTs] at h
 | _::_,[],h,_=>by simp [flT,eqTs] at h
def AV.plain:AV->Prop
 | .g .. =>False
 | _=>True
theorem unA_ok:∀ {x:AV} {sh:ShA},x.plain->eqA (flA x).1 sh=true->∀ l:List Val,unA sh ((flA x).2++l)=some (x,l)
 | .c x,.c a,_,h,l=>by simp only [flA,eqA] at h; simp only [flA,unA,unC_ok h]
 | .a x,.a a,_,h,l=>by simp only [flA,eqA] at h; simp only [flA,unA,unL_ok h]
 | .t x,.t a,_,h,l=>by simp only [flA,eqA] at h; simp only [flA,unA,unT_ok h]
 | .g ..,_,hp,_,_=>hp.elim
 | .c x,.a _,_,h,_=>by simp [flA,eqA] at h
 | .c x,.t _,_,h,_=>by simp [flA,eqA] at h
 | .a x,.c _,_,h,_=>by simp [flA,eqA] at h
 | .a x,.t _,_,h,_=>by simp [flA,eqA] at h
 | .t x,.c _,_,h,_=>by simp [flA,eqA] at h
 | .t x,.a _,_,h,_=>by simp [flA,eqA] at h
def noG (l:List (Nat×AV)):Prop:=∀ p∈l,p.2.plain
theorem unTm_ok:∀ {x:List (Nat×AV)} {sh:List (Nat×ShA)},noG x->eqTm (flTm x).1 sh=true->∀ l:List Val,unTm sh ((flTm x).2++l)=some (x,l)
 | [],[],_,_,l=>rfl
 | (t,x)::xs,(u,a)::b,hp,h,l=>by
  simp only [flTm,eqTm,Bool.and_eq_true] at h
  have htu:=nat_beq h.1
  simp only [flTm,unTm,List.append_assoc,unA_ok (hp _ List.mem_cons_self) h.2.1,unTm_ok (fun p hm=>hp p (List.mem_cons_of_mem _ hm)) h.2.2,htu]
 | [],_::_,_,h,_=>by simp [flTm,eqTm] at h
 | _::_,[],_,h,_=>by simp [flTm,eqTm] at h
theorem unVs_ok:∀ {x:List (Nat×List Cv)} {sh:List (Nat×List Sh)},eqVs (flVs x).1 sh=true->∀ l:List Val,unVs sh ((flVs x).2++l)=some (x,l)
 | [],[],_,l=>rfl
 | (t,x)::xs,(u,a)::b,h,l=>by
  simp only [flVs,eqVs,Bool.and_eq_true] at h
  have htu:=nat_beq h.1
  simp only [flVs,unVs,List.append_assoc,unL_ok h.2.1,unVs_ok h.2.2,htu]
 | [],_::_,h,_=>by simp [flVs,eqVs] at h
 | _::_,[],h,_=>by simp [flVs,eqVs] at h
def lowRs:List (Nat×Row)->List (Nat×(Ty×Nat))->List (Nat×Row)
 | (k,row)::l,(_,(_,d))::m=>(k,{ row with ow:=d })::lowRs l m
 | _,_=>[]
theorem unRs_ok:∀ {x:List (Nat×Row)} {sh:List (Nat×(Ty×Nat))},eqRs (flRs x).1 sh=true->unRs sh (flRs x).2=some (lowRs x sh)
 | [],[],_=>rfl
 | (t,x)::xs,(u,(a,d))::b,h=>by
  simp only [flRs,eqRs,Bool.and_eq_true] at h
  have htu:=nat_beq h.1
  simp only [flRs,unRs,unRs_ok h.2.2.2,lowRs,htu]
 | [],_::_,h=>by simp [flRs,eqRs] at h
 | _::_,[],h=>by simp [flRs,eqRs] at h
def lowK (sh:List (Nat×(Ty×Nat))) (r:Nat):Nat:=match lk sh r with | some (_,d)=>d | none=>0
theorem lk_lowRs:∀ {x:List (Nat×Row)} {sh:List (Nat×(Ty×Nat))},eqRs (flRs x).1 sh=true->∀ k,lk (lowRs x sh) k=(lk x k).map fun row=>{ row with ow:=lowK sh k }
 | [],[],_,k=>rfl
 | (t,x)::xs,(u,(a,d))::b,h,k=>by
  simp only [flRs,eqRs,Bool.and_eq_true] at h
  have htu:=nat_beq h.1
  subst htu
  have ih:=lk_lowRs h.2.2.2 k
  simp only [lowRs,lk,lowK]
  cases hk:Nat.beq t k with
  | true=>rfl
  | false=>simp only; rw [ih]; rfl
 | [],_::_,h,_=>by simp [flRs,eqRs] at h
 | _::_,[],h,_=>by simp [flRs,eqRs] at h
theorem low_le:∀ {x:List (Nat×Row)} {sh:List (Nat×(Ty×Nat))},eqRs (flRs x).1 sh=true->∀ k row,lk x k=some row->leK (lowK sh k) row.ow=true/\(lowK sh k=1->row.ow=1\/k<100000\/400000<=k)
 | [],_,_,k,row,h=>by cases h
 | (t,x)::xs,(u,(a,d))::b,h,k,row,hk=>by
  simp only [flRs,eqRs,Bool.and_eq_true] at h
  have htu:=nat_beq h.1
  subst htu
  simp only [lk] at hk
  simp only [lowK,lk]
  cases hkt:Nat.beq t k with
  | true =>
   simp only [hkt,Option.some.injEq] at hk
   have:=nat_beq hkt; subst this; subst hk
   obtain ⟨h1,h2,⟨h3,h4⟩,h5⟩:=h
   refine ⟨h3,fun hd=> ?_⟩
   have hd:d=1:=hd
   subst hd
   simp only [Bool.or_eq_true] at h4
   rcases h4 with h4 | h4 | h4
   ·exact .inl (nat_beq h4)
   ·exact .inr (.inl (by have:=Nat.le_of_ble_eq_true h4; omega))
   ·exact .inr (.inr (Nat.le_of_ble_eq_true h4))
  | false =>
   simp only [hkt] at hk
   have:=low_le h.2.2.2 k row hk
   simpa [lowK] using this
 | (_,_)::_,[],h,_,_,_=>by simp [flRs,eqRs] at h
theorem unflat_eq {sk:Sk} (hg:noG S.tm) (h:eqSk (flat S).1 sk=true):unflat sk (flat S).2=some ⟨S.tm,S.vs,lowRs S.rs sk.rs⟩:=by
 simp only [flat,eqSk,Bool.and_eq_true] at h
 simp only [flat,unflat,unTm_ok hg h.1,unVs_ok h.2.1,unRs_ok h.2.2]
theorem unflat_ok {sk:Sk} (h:eqSk (flat S).1 sk=true) {e0:Lk} {γ0:Gh} {w0:World} {a:Act} (hI:Inv X e0 γ0 w0 S γ a w):∃ γ',Inv X e0 γ0 w0 ⟨S.tm,S.vs,lowRs S.rs sk.rs⟩ γ' a w:=by
 simp only [flat,eqSk,Bool.and_eq_true] at h
 have hr:∀ k,(St.mk S.tm S.vs (lowRs S.rs sk.rs)).lk.r k=(S.lk.r k).map fun row=>{ row with ow:=lowK sk.rs k }:=fun k=>lk_lowRs h.2.2 k
 have hn:Ren S ⟨S.tm,S.vs,lowRs S.rs sk.rs⟩ some (lowK sk.rs) id:=by
  refine ⟨fun r r' k h1 h2=>by cases h1; cases h2; rfl,fun k row' hk=> ?_,fun r k row h1 h2=> ?_,fun r k row h1 h2=> .inl (low_le h.2.2 r row h2).1,fun k cs' hk=>⟨cs',hk,by simp⟩,
   fun t av' ht=>⟨av',ht,(mapV_id (fun _=>rfl) _).symm⟩,rfl,fun x=> ?_,fun r k h _ _=>by cases h; rfl⟩
  ·rw [hr] at hk
   cases hl:S.lk.r k with
   | none=>rw [hl] at hk; cases hk
   | some row=>rw [hl] at hk; cases hk; exact ⟨k,row,rfl,hl,rfl⟩
  ·cases h1; rw [hr,h2]; rfl
  ·cases x with
   | sw r=>exact .inr (.inr ⟨r,r,rfl,.inl ⟨rfl,rfl⟩⟩)
   | sl r o n=>exact .inr (.inr ⟨r,r,rfl,.inr (.inl ⟨o,n,rfl,rfl⟩)⟩)
   | nw r o n=>exact .inr (.inr ⟨r,r,rfl,.inr (.inr (.inl ⟨o,n,rfl,rfl⟩))⟩)
   | ns r e c o n=>exact .inr (.inr ⟨r,r,rfl,.inr (.inr (.inr (.inl ⟨e,c,o,n,rfl,rfl⟩)))⟩)
   | pe r o n=>exact .inr (.inr ⟨r,r,rfl,.inr (.inr (.inr (.inr (.inl ⟨o,n,rfl,rfl⟩))))⟩)
   | pn r e c o n=>exact .inr (.inr ⟨r,r,rfl,.inr (.inr (.inr (.inr (.inr ⟨e,c,o,n,rfl,rfl⟩))))⟩)
   | _=>exact .inr (.inl ⟨rfl,rfl,fun k _ cs hcs=>⟨cs,hcs⟩⟩)
 obtain ⟨γ',h1,h2⟩:=hn.ok hI.weak
 refine ⟨γ',h1.inv fun k row' hk1 hk2 hk3 hk4=> ?_⟩
 rw [hr] at hk3
 cases hl:S.lk.r k with
 | none=>rw [hl] at hk3; cases hk3
 | some row =>
  rw [hl] at hk3; cases hk3
  have hk4:lowK sk.rs k=1:=hk4
  have h5:row.ow=1:=by
   rcases (low_le h.2.2 k row hl).2 hk4 with h | h | h
   ·exact h
   ·omega
   ·omega
  obtain ⟨i1,i2,i3⟩:=hI.i3 k row hk1 hk2 hl h5
  obtain ⟨j1,j2⟩:=h2 k k row rfl hl
  exact ⟨by rw [i1,hk4,← h5],by rw [j1,i2],by rw [j2,i3]⟩
theorem kk_self (a:Nat):leK a a=true\/(a=a/\ownK a=false/\a≠3):=by
 rcases a with _|_|_|_|_|_|a
 ·exact .inr ⟨rfl,rfl,by omega⟩
 ·exact .inl rfl
 ·exact .inl rfl
 ·exact .inl rfl
 ·exact .inl rfl
 ·exact .inl rfl
 ·exact .inr ⟨rfl,rfl,by omega⟩
def frzB (fz:List Nat) (k:Nat) (row:Row):Bool:=match hasN k fz&&(Nat.ble 1 row.ow&&Nat.ble row.ow 5),Nat.ble 300000 k&&(Nat.ble k 399999&&Nat.beq row.ow 2) with
 | true,false=>true
 | _,_=>false
theorem lk_freeze (fz:List Nat):∀ (l:List (Nat×Row)) (k:Nat),lk (freeze fz l) k=(lk l k).map fun row=>bif frzB fz k row then { row with ow:=fzK row.ow } else row
 | [],k=>rfl
 | (j,row)::l,k=>by
  have ih:=lk_freeze fz l k
  have:freeze fz ((j,row)::l)=(j,bif frzB fz j row then { row with ow:=fzK row.ow } else row)::freeze fz l:=by
   simp only [freeze,frzB]
   generalize (hasN j fz&&(Nat.ble 1 row.ow&&Nat.ble row.ow 5))=b1
   generalize (Nat.ble 300000 j&&(Nat.ble j 399999&&Nat.beq row.ow 2))=b2
   cases b1<;>cases b2<;>rfl
  rw [this]
  simp only [lk,ih]
  cases hj:Nat.beq j k with
  | true=>have:=nat_beq hj; subst this; rfl
  | false=>rfl
theorem fzK_le {a:Nat} (h1:1<=a) (h2:a<=5):leK (fzK a) a=true:=by
 rcases a with _|_|_|_|_|_|a
 ·omega
 ·rfl
 ·rfl
 ·rfl
 ·rfl
 ·rfl
 ·omega
theorem ref_fr {f:Cv->Cv} (hf:∀ x,f x=x) {μ:Nat->Option Nat} (hμ:∀ r,μ r=some r) (hv:∀ k cs,S.lk.v k=some cs->∃ cs',T.lk.v k=some cs') (x:Cv) :
  f x= .un\/(f x=x/\x.row=none/\∀ k∈x.vk,∀ cs,S.lk.v k=some cs->∃ cs',T.lk.v k=some cs')\/∃ r k,μ r=some k /\
  ((x= .sw r/\f x= .sw k)\/(∃ o n,x= .sl r o n/\f x= .sl k o n)\/(∃ e c,x= .nw r e c/\f x= .nw k e c)\/(∃ e c o n,x= .ns r e c o n/\f x= .ns k e c o n) \/
   (∃ e c,x= .pe r e c/\f x= .pe k e c)\/∃ e c o n,x= .pn r e c o n/\f x= .pn k e c o n):=by
 have h:=hf x
 cases x with
 | sw r=>exact .inr (.inr ⟨r,r,hμ r,.inl ⟨rfl,h⟩⟩)
 | sl r o n=>exact .inr (.inr ⟨r,r,hμ r,.inr (.inl ⟨o,n,rfl,h⟩)⟩)
 | nw r o n=>exact .inr (.inr ⟨r,r,hμ r,.inr (.inr (.inl ⟨o,n,rfl,h⟩))⟩)
 | ns r e c o n=>exact .inr (.inr ⟨r,r,hμ r,.inr (.inr (.inr (.inl ⟨e,c,o,n,rfl,h⟩)))⟩)
 | pe r o n=>exact .inr (.inr ⟨r,r,hμ r,.inr (.inr (.inr (.inr (.inl ⟨o,n,rfl,h⟩))))⟩)
 | pn r e c o n=>exact .inr (.inr ⟨r,r,hμ r,.inr (.inr (.inr (.inr (.inr ⟨e,c,o,n,rfl,h⟩))))⟩)
 | _=>exact .inr (.inl ⟨h,rfl,fun k _ cs hcs=>hv k cs hcs⟩)
def I3v (e0:Lk) (γ0:Gh) (S:St) (γ:Gh):Prop:=∀ k row,300000<=k->k<400000->S.lk.r k=some row->row.ow=1->e0.r k=some row/\γ.rv k=γ0.rv k/\γ.cv k=γ0.cv k
theorem freeze_ok {e0:Lk} {γ0:Gh} {w0:World} {a:Act} (fz:List Nat) (hI:Inv X e0 γ0 w0 S γ a w):∃ γ',InvW X γ0 w0 (S.freeze fz) γ' a w/\I3v e0 γ0 (S.freeze fz) γ':=by
 have done:∃ γ',InvW X γ0 w0 S γ' a w/\I3v e0 γ0 S γ':=⟨γ,hI.weak,fun k row h1 h2=>hI.i3 k row (by omega) h2⟩
 cases hfz:fz with
 | nil=>exact done
 | cons t l =>
  simp only [St.freeze]
  generalize rksA (fmap S.get (t::l))=ks
  let T:St:=⟨S.tm,S.vs,Soft.freeze ks S.rs⟩
  have hr:∀ k,T.lk.r k=(S.lk.r k).map fun row=>bif frzB ks k row then { row with ow:=fzK row.ow } else row:=fun k=>lk_freeze ks S.rs k
  let κ:Nat->Nat:=fun r=>match S.lk.r r with | some row=>(bif frzB ks r row then fzK row.ow else row.ow) | none=>0
  have hκ:∀ r row,S.lk.r r=some row->κ r=bif frzB ks r row then fzK row.ow else row.ow:=by
   intro r row hr
   show (match S.lk.r r with | some row=>(bif frzB ks r row then fzK row.ow else row.ow) | none=>0)=_
   rw [hr]
  have hrow:∀ r row,S.lk.r r=some row->(bif frzB ks r row then { row with ow:=fzK row.ow } else row)={ row with ow:=κ r }:=by
   intro r row hr
   rw [hκ r row hr]
   cases frzB ks r row<;>rfl
  have hn:Ren S T some κ id:=by
   refine ⟨fun r r' k h1 h2=>by cases h1; cases h2; rfl,fun k row' hk=> ?_,fun r k row h1 h2=> ?_,fun r k row h1 h2=> ?_,fun k cs' hk=>⟨cs',hk,by simp⟩,
    fun t av' ht=>⟨av',ht,(mapV_id (fun _=>rfl) _).symm⟩,rfl,ref_fr (fun _=>rfl) (fun _=>rfl) fun k cs h=>⟨cs,h⟩,fun r k h _ _=>by cases h; rfl⟩
   ·rw [hr] at hk
    cases hl:S.lk.r k with
    | none=>rw [hl] at hk; cases hk
    | some row=>rw [hl] at hk; cases hk; exact ⟨k,row,rfl,hl,hrow k row hl⟩
   ·cases h1; rw [hr,h2]; exact congrArg some (hrow r row h2)
   ·rw [hκ r row h2]
    cases hf:frzB ks r row with
    | false=>exact kk_self row.ow
    | true =>
     refine .inl ?_
     simp only [frzB] at hf
     revert hf; split
     ·rename_i h1 _
      intro _
      simp only [Bool.and_eq_true] at h1
      exact fzK_le (Nat.le_of_ble_eq_true h1.2.1) (Nat.le_of_ble_eq_true h1.2.2)
     ·intro h; cases h
  obtain ⟨γ',h1,h2⟩:=hn.ok hI.weak
  refine ⟨γ',h1,fun k row' hk1 hk2 hk3 hk4=> ?_⟩
  have hk3:T.lk.r k=some row':=hk3
  rw [hr] at hk3
  cases hl:S.lk.r k with
  | none=>rw [hl] at hk3; cases hk3
  | some row =>
   rw [hl] at hk3
   simp only [Option.map_some,Option.some.injEq] at hk3
   have h5:row.ow=1/\row'=row:=by
    cases hf:frzB ks k row with
    | false=>rw [hf] at hk3; simp only [cond_false] at hk3; subst hk3; exact ⟨hk4,rfl⟩
    | true =>
     rw [hf] at hk3; simp only [cond_true] at hk3
     subst hk3
     have hk4:fzK row.ow=1:=hk4
     have h12:row.ow=1\/row.ow=2:=by
      revert hk4; simp only [fzK]; split
      ·exact fun _=> .inl (by assumption)
      ·exact fun _=> .inr (by assumption)
      ·intro h; cases h
     rcases h12 with h | h
     ·refine ⟨h,?_⟩
      obtain ⟨τ,xs,ow⟩:=row
      simp only at h; subst h; rfl
     ·exfalso
      simp only [frzB] at hf
      have:(Nat.ble 300000 k&&(Nat.ble k 399999&&Nat.beq row.ow 2))=true:=by
       rw [h]; simp only [Bool.and_eq_true]
       exact ⟨Nat.ble_eq_true_of_le hk1,Nat.ble_eq_true_of_le (by omega),rfl⟩
      rw [this] at hf
      revert hf
      cases (hasN k ks&&(Nat.ble 1 row.ow&&Nat.ble row.ow 5))<;>simp
   obtain ⟨h5,rfl⟩:=h5
   obtain ⟨i1,i2,i3⟩:=hI.i3 k row' (by omega) hk2 hl h5
   obtain ⟨j1,j2⟩:=h2 k k row' rfl hl
   exact ⟨i1,by rw [j1,i2],by rw [j2,i3]⟩
inductive NlR (X:Ctx) (O:OM) (w:World):List (Nat×Row)->List (Nat×(Value×List Value))->Prop
 | nil:NlR X O w [] []
 | cons {k:Nat} {row:Row} {v:Value} {cs:List Value} {rs:List (Nat×Row)} {V:List (Nat×(Value×List Value))}:RowR X O w k row v cs->NlR X O w rs V->NlR X O w ((k,row)::rs) ((k,(v,cs))::V)
theorem NlR.append {O:OM} {rs rs':List (Nat×Row)} {V V':List (Nat×(Value×List Value))} (h:NlR X O w rs V) (h':NlR X O w rs' V'):NlR X O w (rs++rs') (V++V'):=by
 induction h with
 | nil=>exact h'
 | cons hr _ ih=>exact .cons hr ih
theorem NlR.keys {O:OM} {rs:List (Nat×Row)} {V:List (Nat×(Value×List Value))} (h:NlR X O w rs V):keys V=Soft.keys rs:=by
 induction h with
 | nil=>rfl
 | cons _ _ ih=>simp [Soft.keys,ih]
theorem NlR.get {O:OM} {rs:List (Nat×Row)} {V:List (Nat×(Value×List Value))} (h:NlR X O w rs V):∀ k row,lk rs k=some row->∃ vc,lk V k=some vc/\RowR X O w k row vc.1 vc.2:=by
 induction h with
 | nil=>intro k row h; cases h
 | cons hr _ ih =>
  rename_i j _ v cs _ _ _
  intro k row hk
  simp only [lk] at hk ⊢
  cases hj:Nat.beq j k with
  | true =>
   simp only [hj,Option.some.injEq] at hk ⊢
   have:=nat_beq hj; subst this; subst hk
   exact ⟨_,rfl,hr⟩
  | false=>simp only [hj] at hk ⊢; exact ih k row hk
structure Ag (m:Lk) (γ:Gh) (rs:List (Nat×Row)) (V:List (Nat×(Value×List Value))) (m1:Lk) (γ1:Gh):Prop where
 r:∀ r row,m.r r=some row->m1.r r=some row/\γ1.rv r=γ.rv r/\γ1.cv r=γ.cv r
 v:∀ k cs,m.v k=some cs->∃ cs',m1.v k=some cs'
 vb:γ1.vb=γ.vb
 n:∀ k row,(k,row)∈rs->m1.r k=some row
 g:∀ k vc,(k,vc)∈V->γ1.rv k=vc.1/\γ1.cv k=vc.2
variable {m1:Lk} {γ1:Gh} {rs rs':List (Nat×Row)} {V V':List (Nat×(Value×List Value))}
theorem Ag.left (h:Ag m γ (rs++rs') (V++V') m1 γ1):Ag m γ rs V m1 γ1:=⟨h.r,h.v,h.vb,fun k row hm=>h.n k row (List.mem_append_left _ hm),fun k vc hm=>h.g k vc (List.mem_append_left _ hm)⟩
theorem Ag.right (h:Ag m γ (rs++rs') (V++V') m1 γ1):Ag m γ rs' V' m1 γ1:=⟨h.r,h.v,h.vb,fun k row hm=>h.n k row (List.mem_append_right _ hm),fun k vc hm=>h.g k vc (List.mem_append_right _ hm)⟩
theorem Ag.old (h:Ag m γ rs V m1 γ1) {x:Cv} {v:Value} (hx:RelC m γ x v):RelC m1 γ1 x v :=
 hx.re (fun r _=>⟨fun row hr=>⟨row,(h.r r row hr).1,rfl,Nat.le_refl _⟩,by
  cases hx':m.r r with
  | some row=>exact (h.r r row hx').2.1
  | none =>
   exfalso
   rename_i hrow
   revert hx
   cases x<;>simp only [Cv.row,Option.some.injEq,reduceCtorEq] at hrow<;>subst hrow<;>simp [RelC,hx']⟩)
  (fun r _ _=>⟨fun row row' h1 h2 e c τ ys he hc=>by
   have h3:=h.r r row h1
   rw [h3.1] at h2; cases h2
   exact ⟨⟨ys,hc,Nat.le_refl _⟩,by rw [h3.2.2]⟩⟩) fun k _=>⟨fun cs hcs=>h.v k cs hcs,by rw [h.vb]⟩
theorem Ag.oldA (h:Ag m γ rs V m1 γ1) {x:AV} {v:Value} (hx:RelA m γ x v):RelA m1 γ1 x v:=by
 have:=RelA.map (f:=id) (fun x v hx=>h.old hx) rfl hx
 rwa [mapV_id (f:=id) (fun _=>rfl)] at this
theorem nlC_ok (hR:Rel X m γ w) {x y:Cv} {v:Value} {k:Nat} {rs:List (Nat×Row)} (hx:RelC m γ x v) (h:m.nlC k x=(y,rs)) :
  ∃ V,NlR X γ.O w rs V/\∀ m1 γ1,Ag m γ rs V m1 γ1->RelC m1 γ1 y v:=by
 have same:∀ {y:Cv} {rs:List (Nat×Row)},(x,[])=(y,rs)->∃ V,NlR X γ.O w rs V/\∀ m1 γ1,Ag m γ rs V m1 γ1->RelC m1 γ1 y v:=by
  intro y rs h
  cases h
  exact ⟨[],.nil,fun m1 γ1 ha=>ha.old hx⟩
 have new:∀ {row:Row} {cs:List Value} {y:Cv} {rs:List (Nat×Row)},RowR X γ.O w k row v cs->(Cv.sw k,[(k,row)])=(y,rs)->∃ V,NlR X γ.O w rs V/\∀ m1 γ1,Ag m γ rs V m1 γ1->RelC m1 γ1 y v:=by
  intro row cs y rs hr h
  cases h
  exact ⟨[(k,(v,cs))],.cons hr .nil,fun m1 γ1 ha=>⟨⟨row,ha.n k row (by simp)⟩,(ha.g k (v,cs) (by simp)).1.symm⟩⟩
 have bor:∀ {τ:Ty} {ys:List (El τ)},m.immC x=true->(∃ r,x.row=some r)->(m.vw x).ct=some (.l τ ys)->∃ cs,RowR X γ.O w k ⟨τ,ys,match x.row with | some r=>(match m.r r with | some row=>row.ow | none=>1) | none=>1⟩ v cs:=by
  intro τ ys hi hrow hc
  obtain ⟨r,hrow⟩:=hrow
  simp only [Lk.immC,hrow] at hi ⊢
  cases hr:m.r r with
  | none=>simp [hr] at hi
  | some row =>
   simp only [hr] at hi ⊢
   revert hi; split
   ·rename_i h1
    intro _
    obtain ⟨cs,hv⟩:=vw_visI (Le.refl m) hR hx (A:=fun g=>In .bor (γ.O g)) (fun r' row' g hr' hx' hi=>by
     rw [hrow] at hx'; cases hx'
     rw [hr] at hr'; cases hr'
     rw [h1] at hi
     rcases hi with hi | ⟨_,_,hi⟩<;>exact hi) hc
    rw [h1]; exact ⟨cs,hv.of_bor⟩
   ·rename_i h1
    intro _
    obtain ⟨cs,hv⟩:=vw_visI (Le.refl m) hR hx (A:=fun g=>In .fz (γ.O g)) (fun r' row' g hr' hx' hi=>by
     rw [hrow] at hx'; cases hx'
     rw [hr] at hr'; cases hr'
     rw [h1] at hi
     rcases hi with hi | ⟨_,_,hi⟩<;>exact hi) hc
    rw [h1]; exact ⟨cs,hv.of_fz⟩
   ·intro h; cases h
 cases x with
 | nl τ =>
  simp only [Lk.nlC] at h
  have hv:v= .slice none 0 0:=hx
  exact new (by rw [hv]; exact RowR.nil X γ.O w k τ 5) h
 | sw r =>
  simp only [Lk.nlC] at h
  cases hr:m.r r with
  | none=>simp only [hr] at h; exact same h
  | some row =>
   simp only [hr] at h
   have hrow:=hR.rs r row hr
   obtain ⟨_,hv⟩:=hx
   have hcopy:row.ow=1\/row.ow=3->RowR X γ.O w k row v (γ.cv r):=by
    intro ho
    rw [hv]
    have:=hrow.re (k':=k) (ow':=row.ow) (w':=w) (O':=γ.O) (by rcases ho with ho | ho<;>rw [ho]<;>rfl) (fun g o hg hi=>⟨hg,by rcases ho with ho | ho<;>rw [ho] at hi ⊢<;>exact hi⟩)
     (fun e c g o hg hi=>⟨hg,by rcases ho with ho | ho<;>rw [ho] at hi ⊢<;>exact hi⟩)
    exact this
   revert h; split
   ·rename_i h1; exact fun h=>new (hcopy (.inl h1)) h
   ·rename_i h1; exact fun h=>new (hcopy (.inr h1)) h
   ·exact fun h=>same h
 | sl r o n =>
  simp only [Lk.nlC] at h
  revert h; split
  ·rename_i hi hc
   intro h
   obtain ⟨cs,hr⟩:=bor hi ⟨r,rfl⟩ hc
   exact new hr h
  ·exact fun h=>same h
 | nw r o n =>
  simp only [Lk.nlC] at h
  revert h; split
  ·rename_i hi hc
   intro h
   obtain ⟨cs,hr⟩:=bor hi ⟨r,rfl⟩ hc
   exact new hr h
  ·exact fun h=>same h
 | ns r e c o n =>
  simp only [Lk.nlC] at h
  revert h; split
  ·rename_i hi hc
   intro h
   obtain ⟨cs,hr⟩:=bor hi ⟨r,rfl⟩ hc
   exact new hr h
  ·exact fun h=>same h
 | _=>exact same h
theorem nlL_ok (hR:Rel X m γ w):∀ {x y:List Cv} {v:List Value} {k:Nat} {rs:List (Nat×Row)},RelL m γ x v->m.nlL k x=(y,rs) ->
  ∃ V,NlR X γ.O w rs V/\∀ m1 γ1,Ag m γ rs V m1 γ1->RelL m1 γ1 y v
 | [],y,v,k,rs,hx,h=>by cases hx; cases h; exact ⟨[],.nil,fun _ _ _=> .nil⟩
 | x::l,y,v,k,rs,hx,h=>by
  cases hx with
  | cons hx hl =>
   simp only [Lk.nlL] at h
   cases h1:m.nlC k x with
   | mk a ra =>
    cases h2:m.nlL (k+1) l with
    | mk b rb =>
     simp only [h1,h2] at h; cases h
     obtain ⟨V,hv1,hv2⟩:=nlC_ok hR hx h1
     obtain ⟨V',hv3,hv4⟩:=nlL_ok hR hl h2
     exact ⟨V++V',hv1.append hv3,fun m1 γ1 ha=> .cons (hv2 m1 γ1 ha.left) (hv4 m1 γ1 ha.right)⟩
theorem nlTm_ok (hR:Rel X m γ w) {VT:Nat->Value}:∀ {x y:List (Nat×AV)} {k:Nat} {rs:List (Nat×Row)},(∀ p∈x,RelA m γ p.2 (VT p.1))->m.nlTm k x=(y,rs) ->
  ∃ V,NlR X γ.O w rs V/\∀ m1 γ1,Ag m γ rs V m1 γ1->∀ p∈y,RelA m1 γ1 p.2 (VT p.1)
 | [],y,k,rs,hx,h=>by cases h; exact ⟨[],.nil,fun _ _ _ p hp=>by cases hp⟩
 | (t,av)::l,y,k,rs,hx,h=>by
  have hl:∀ p∈l,RelA m γ p.2 (VT p.1):=fun p hp=>hx p (List.mem_cons_of_mem _ hp)
  have h0:RelA m γ av (VT t):=hx (t,av) List.mem_cons_self
  have rest:∀ {b:AV} {rb:List (Nat×Row)} {V:List (Nat×(Value×List Value))} {y:List (Nat×AV)} {rs:List (Nat×Row)},NlR X γ.O w rb V->(∀ m1 γ1,Ag m γ rb V m1 γ1->RelA m1 γ1 b (VT t)) ->
    (match m.nlTm (k+64) l with | (n,rs)=>((t,b)::n,rb++rs))=(y,rs)->∃ V,NlR X γ.O w rs V/\∀ m1 γ1,Ag m γ rs V m1 γ1->∀ p∈y,RelA m1 γ1 p.2 (VT p.1):=by
   intro b rb V y rs hv1 hv2 h
   cases h2:m.nlTm (k+64) l with
   | mk n rc =>
    simp only [h2] at h; cases h
    obtain ⟨V',hv3,hv4⟩:=nlTm_ok hR hl h2
    refine ⟨V++V',hv1.append hv3,fun m1 γ1 ha p hp=> ?_⟩
    rcases List.mem_cons.1 hp with rfl | hp
    ·exact hv2 m1 γ1 ha.left
    ·exact hv4 m1 γ1 ha.right p hp
  have other:∀ {y:List (Nat×AV)} {rs:List (Nat×Row)},(match m.nlTm (k+64) l with | (n,rs)=>((t,av)::n,rs))=(y,rs)->∃ V,NlR X γ.O w rs V/\∀ m1 γ1,Ag m γ rs V m1 γ1->∀ p∈y,RelA m1 γ1 p.2 (VT p.1):=by
   intro y rs h
   refine rest (b:=av) (rb:=[]) (V:=[]) .nil (fun m1 γ1 ha=>ha.oldA h0) ?_
   cases h2:m.nlTm (k+64) l with
   | mk n rc=>simp only [h2] at h ⊢; exact h
  cases av with
  | c x =>
   simp only [Lk.nlTm] at h
   cases h1:m.nlC k x with
   | mk a ra =>
    simp only [h1] at h
    by_cases hu:x= .un
    ·subst hu
     simp only [Lk.nlC,Prod.mk.injEq] at h1
     obtain ⟨rfl,rfl⟩:=h1
     exact rest (b:= .c .un) (V:=[]) .nil (fun _ _ _=>trivial) h
    ·obtain ⟨V,hv1,hv2⟩:=nlC_ok hR (RelA.to h0 hu) h1
     exact rest (b:= .c a) hv1 (fun m1 γ1 ha=>RelA.of (hv2 m1 γ1 ha)) h
  | a x =>
   simp only [Lk.nlTm] at h
   cases h1:m.nlL k x with
   | mk a ra =>
    simp only [h1] at h
    obtain ⟨us,hus,hl'⟩:=h0
    obtain ⟨V,hv1,hv2⟩:=nlL_ok hR hl' h1
    exact rest (b:= .a a) hv1 (fun m1 γ1 ha=>⟨us,hus,hv2 m1 γ1 ha⟩) h
  | t x=>exact other h
  | g p q x=>exact other h
theorem nlVs_ok (hR:Rel X m γ w) {H:Nat->List Value->Prop}:∀ {x y:List (Nat×List Cv)} {k:Nat} {rs:List (Nat×Row)},(∀ p∈x,∃ u,H p.1 u/\RelL m γ p.2 u)->m.nlVs k x=(y,rs) ->
  ∃ V,NlR X γ.O w rs V/\keys y=keys x/\∀ m1 γ1,Ag m γ rs V m1 γ1->∀ p∈y,∃ u,H p.1 u/\RelL m1 γ1 p.2 u
 | [],y,k,rs,hx,h=>by cases h; exact ⟨[],.nil,rfl,fun _ _ _ p hp=>by cases hp⟩
 | (t,cs)::l,y,k,rs,hx,h=>by
  simp only [Lk.nlVs] at h
  cases h1:m.nlL k cs with
  | mk a ra =>
   cases h2:m.nlVs (k+64) l with
   | mk n rc =>
    simp only [h1,h2] at h; cases h
    obtain ⟨u,hu,hr⟩:=hx (t,cs) List.mem_cons_self
    obtain ⟨V,hv1,hv2⟩:=nlL_ok hR hr h1
    obtain ⟨V',hv3,hk,hv4⟩:=nlVs_ok hR (fun p hp=>hx p (List.mem_cons_of_mem _ hp)) h2
    refine ⟨V++V',hv1.append hv3,by simp [keys,hk],fun m1 γ1 ha p hp=> ?_⟩
    rcases List.mem_cons.1 hp with rfl | hp
    ·exact ⟨u,hu,hv2 m1 γ1 ha.left⟩
    ·exact hv4 m1 γ1 ha.right p hp
theorem nlC_keys (k:Nat) (x:Cv):∀ j∈keys (m.nlC k x).2,j=k:=by
 intro j hj
 revert hj
 simp only [Lk.nlC]
 repeat' split
 all_goals simp [keys]
theorem nlL_keys:∀ (x:List Cv) (k:Nat),∀ j∈keys (m.nlL k x).2,k<=j
 | [],k,j,h=>by simp [Lk.nlL,keys] at h
 | x::l,k,j,h=>by
  have h1:=nlC_keys (m:=m) k x
  have h2:=nlL_keys l (k+1)
  simp only [Lk.nlL,keys_append,List.mem_append] at h
  rcases h with h | h
  ·have:=h1 j h; omega
  ·have:=h2 j h; omega
theorem nlTm_keys:∀ (x:List (Nat×AV)) (k:Nat),∀ j∈keys (m.nlTm k x).2,k<=j
 | [],k,j,h=>by simp [Lk.nlTm,keys] at h
 | (t,av)::l,k,j,h=>by
  have h2:=nlTm_keys l (k+64)
  cases av with
  | c x =>
   simp only [Lk.nlTm,keys_append,List.mem_append] at h
   rcases h with h | h
   ·have:=nlC_keys k x j h; omega
   ·have:=h2 j h; omega
  | a x =>
   simp only [Lk.nlTm,keys_append,List.mem_append] at h
   rcases h with h | h
   ·exact nlL_keys x k j h
   ·have:=h2 j h; omega
  | t x=>simp only [Lk.nlTm] at h; have:=h2 j h; omega
  | g p q x=>simp only [Lk.nlTm] at h; have:=h2 j h; omega
theorem nlVs_keys:∀ (x:List (Nat×List Cv)) (k:Nat),∀ j∈keys (m.nlVs k x).2,k<=j
 | [],k,j,h=>by simp [Lk.nlVs,keys] at h
 | (t,cs)::l,k,j,h=>by
  have h2:=nlVs_keys l (k+64)
  simp only [Lk.nlVs,keys_append,List.mem_append] at h
  rcases h with h | h
  ·exact nlL_keys cs k j h
  ·have:=h2 j h; omega
end Go.Soft
namespace Go.Soft
open Go
variable {X:Ctx} {m M:Lk} {γ γ':Gh} {w w':World} {ρ:Operand->Value} {S T:St} {δ δ':Dl}
theorem mem_pickT {s:St} {t:Nat} {av:AV}:∀ {l:List Nat},(t,av)∈pickT s l->av=dropG (s.get t)
 | [],h=>by cases h
 | x::l,h=>by
  rcases List.mem_cons.1 h with h | h
  ·cases h; rfl
  ·exact mem_pickT h
theorem mem_pickVs {vs:List (Nat×List Cv)} {k:Nat} {cs:List Cv}:∀ {l:List Nat},(k,cs)∈pickVs vs l->lk vs k=some cs
 | [],h=>by cases h
 | x::l,h=>by
  simp only [pickVs] at h
  cases hx:lk vs x with
  | none=>rw [hx] at h; exact mem_pickVs h
  | some c =>
   rw [hx] at h
   rcases List.mem_cons.1 h with h | h
   ·cases h; exact hx
   ·exact mem_pickVs h
theorem idxO_mem {v:Nat}:∀ {l:List Nat} {i j:Nat},idxO v i l=some j->v∈l
 | [],i,j,h=>by cases h
 | x::l,i,j,h=>by
  simp only [idxO] at h
  cases hx:Nat.beq x v with
  | true=>rw [nat_beq hx]; exact List.mem_cons_self
  | false=>rw [hx] at h; exact List.mem_cons_of_mem _ (idxO_mem h)
theorem lk_append {α:Type} (a b:List (Nat×α)) (k:Nat):lk (a++b) k=match lk a k with | some v=>some v | none=>lk b k:=by
 induction a with
 | nil=>rfl
 | cons p a ih =>
  obtain ⟨j,v⟩:=p
  simp only [List.cons_append,lk,ih]
  cases Nat.beq j k<;>rfl
theorem rowsIn_nodup:∀ {l:List Cv} {acc:List Nat},acc.Nodup->(rowsIn l acc).Nodup
 | [],acc,h=>h
 | x::l,acc,h=>by
  simp only [rowsIn]
  cases x.row with
  | none=>exact rowsIn_nodup h
  | some r =>
   simp only
   cases hi:idxO r 0 acc with
   | some _=>exact rowsIn_nodup h
   | none=>exact rowsIn_nodup (List.nodup_append.2 ⟨h,by simp,fun a ha b hb=>by simp at hb; subst hb; intro e; subst e; exact idxO_none hi ha⟩)
theorem allIn_mem {m:List Nat}:∀ {l:List Nat},allIn l m=true->∀ x∈l,x∈m
 | [],_,x,hx=>by cases hx
 | y::l,h,x,hx=>by
  simp only [allIn] at h
  cases hi:idxO y 0 m with
  | none=>rw [hi] at h; cases h
  | some j =>
   rw [hi] at h
   rcases List.mem_cons.1 hx with rfl | hx
   ·exact idxO_mem hi
   ·exact allIn_mem h x hx
theorem ren_mem {rs:List (Nat×Row)}:∀ {l:List Nat} {k r v:Nat},(r,v)∈renOf rs k l->r∈l/\∃ row,lk rs r=some row/\((keepK r row=true/\v=r)\/(keepK r row=false/\∃ i,k<=i/\v=500000+i))
 | [],k,r,v,h=>by cases h
 | x::l,k,r,v,h=>by
  simp only [renOf] at h
  cases hx:lk rs x with
  | none =>
   rw [hx] at h
   obtain ⟨h1,row,h2,h3⟩:=ren_mem h
   refine ⟨List.mem_cons_of_mem _ h1,row,h2,h3.imp id fun ⟨h4,i,h5,h6⟩=>⟨h4,i,by omega,h6⟩⟩
  | some row =>
   rw [hx] at h
   rcases List.mem_cons.1 h with h | h
   ·simp only [Prod.mk.injEq] at h
    obtain ⟨rfl,hv⟩:=h
    refine ⟨List.mem_cons_self,row,hx,?_⟩
    cases hk:keepK r row with
    | true=>rw [hk] at hv; exact .inl ⟨rfl,hv⟩
    | false=>rw [hk] at hv; exact .inr ⟨rfl,k,Nat.le_refl _,hv⟩
   ·obtain ⟨h1,row,h2,h3⟩:=ren_mem h
    refine ⟨List.mem_cons_of_mem _ h1,row,h2,h3.imp id fun ⟨h4,i,h5,h6⟩=>⟨h4,i,by omega,h6⟩⟩
theorem keepK_range {r:Nat} {row:Row} (h:keepK r row=true):100000<=r/\r<=399999/\(row.ow=1->300000<=r):=by
 simp only [keepK] at h
 cases h1:Nat.ble 100000 r with
 | false=>rw [h1] at h; simp at h
 | true =>
  have h1':=Nat.le_of_ble_eq_true h1
  cases h2:Nat.ble r 299999 with
  | true =>
   have:=Nat.le_of_ble_eq_true h2
   refine ⟨h1',by omega,fun ho=> ?_⟩
   rw [h1,h2,ho] at h; simp at h
  | false =>
   have h2':¬ r<=299999:=fun hle=>by rw [Nat.ble_eq_true_of_le hle] at h2; cases h2
   cases h3:Nat.ble r 399999 with
   | true=>have:=Nat.le_of_ble_eq_true h3; exact ⟨h1',this,fun _=>by omega⟩
   | false=>rw [h1,h2,h3] at h; simp at h
theorem ren_inj {rs:List (Nat×Row)}:∀ {l:List Nat} {k:Nat},l.Nodup->∀ {r r' v:Nat},(r,v)∈renOf rs k l->(r',v)∈renOf rs k l->r=r'
 | [],k,_,r,r',v,h,_=>by cases h
 | x::l,k,hn,r,r',v,h,h'=>by
  have hnl:=(List.nodup_cons.1 hn).2
  simp only [renOf] at h h'
  cases hx:lk rs x with
  | none=>rw [hx] at h h'; exact ren_inj hnl h h'
  | some row =>
   rw [hx] at h h'
   have cross:∀ {y:Nat},(match keepK x row with | true=>x | false=>500000+k)=v->(y,v)∈renOf rs (k+1) l->x=y:=by
    intro y hv hy
    obtain ⟨h1,row',h2,h3⟩:=ren_mem hy
    rcases h3 with ⟨h4,h5⟩ | ⟨h4,i,h5,h6⟩
    ·have hr:=keepK_range h4
     cases hk:keepK x row with
     | true=>rw [hk] at hv; simp only at hv; omega
     | false=>rw [hk] at hv; simp only at hv; omega
    ·cases hk:keepK x row with
     | true=>have hr:=keepK_range hk; rw [hk] at hv; simp only at hv; omega
     | false=>rw [hk] at hv; simp only at hv; omega
   rcases List.mem_cons.1 h with h | h<;>rcases List.mem_cons.1 h' with h' | h'
   ·simp only [Prod.mk.injEq] at h h'; rw [h.1,h'.1]
   ·simp only [Prod.mk.injEq] at h; rw [h.1]; exact cross h.2.symm h'
   ·simp only [Prod.mk.injEq] at h'; rw [h'.1]; exact (cross h'.2.symm h).symm
   ·exact ren_inj hnl h h'
theorem ren_nodup {rs:List (Nat×Row)}:∀ {l:List Nat} {k:Nat},l.Nodup->(keys (renOf rs k l)).Nodup
 | [],k,_=>by simp [renOf,keys]
 | x::l,k,hn=>by
  have hnl:=List.nodup_cons.1 hn
  simp only [renOf]
  cases hx:lk rs x with
  | none=>exact ren_nodup hnl.2
  | some row =>
   simp only [keys,List.nodup_cons]
   refine ⟨fun hm=> ?_,ren_nodup hnl.2⟩
   obtain ⟨v,hv⟩:=keys_mem hm
   exact hnl.1 (ren_mem hv).1
theorem mem_rowsNew {rs:List (Nat×Row)} {k:Nat} {row:Row}:∀ {l:List (Nat×Nat)},(k,row)∈rowsNew rs l↔∃ r,(r,k)∈l/\lk rs r=some row
 | []=>by simp [rowsNew]
 | (x,j)::l=>by
  simp only [rowsNew]
  cases hx:lk rs x with
  | none =>
   simp only [mem_rowsNew,List.mem_cons,Prod.mk.injEq]
   constructor
   ·rintro ⟨r,h1,h2⟩; exact ⟨r,.inr h1,h2⟩
   ·rintro ⟨r,h1 | h1,h2⟩
    ·rw [h1.1,hx] at h2; cases h2
    ·exact ⟨r,h1,h2⟩
  | some u =>
   simp only [List.mem_cons,mem_rowsNew,Prod.mk.injEq]
   constructor
   ·rintro (⟨h1,h2⟩ | ⟨r,h1,h2⟩)
    ·exact ⟨x,.inl ⟨rfl,h1⟩,by rw [hx,h2]⟩
    ·exact ⟨r,.inr h1,h2⟩
   ·rintro ⟨r,⟨h1,h1'⟩ | h1,h2⟩
    ·rw [h1,hx] at h2; cases h2; exact .inl ⟨h1',rfl⟩
    ·exact .inr ⟨r,h1,h2⟩
theorem lk_mapTm (f:Cv->Cv) (l:List (Nat×AV)) (t:Nat):lk (mapTm f l) t=(lk l t).map (mapV f):=by
 induction l with
 | nil=>rfl
 | cons p l ih =>
  obtain ⟨k,v⟩:=p
  simp only [mapTm,lk,ih]
  cases Nat.beq k t<;>rfl
theorem lk_mapVs (f:Cv->Cv) (l:List (Nat×List Cv)) (t:Nat):lk (mapVs f l) t=(lk l t).map (List.map f):=by
 induction l with
 | nil=>rfl
 | cons p l ih =>
  obtain ⟨k,v⟩:=p
  simp only [mapVs,lk,ih,fmap_eq]
  cases Nat.beq k t<;>rfl
theorem nlTm_plain:∀ {x y:List (Nat×AV)} {k:Nat} {rs:List (Nat×Row)},noG x->m.nlTm k x=(y,rs)->noG y
 | [],y,k,rs,hp,h=>by cases h; exact hp
 | (t,av)::l,y,k,rs,hp,h=>by
  have hl:noG l:=fun p hm=>hp p (List.mem_cons_of_mem _ hm)
  have h0:av.plain:=hp (t,av) List.mem_cons_self
  cases h2:m.nlTm (k+64) l with
  | mk n rc =>
   have ih:=nlTm_plain hl h2
   cases av with
   | c x =>
    simp only [Lk.nlTm,h2] at h; cases h
    intro p hp'
    rcases List.mem_cons.1 hp' with rfl | hp'
    ·trivial
    ·exact ih p hp'
   | a x =>
    simp only [Lk.nlTm,h2] at h; cases h
    intro p hp'
    rcases List.mem_cons.1 hp' with rfl | hp'
    ·trivial
    ·exact ih p hp'
   | t x =>
    simp only [Lk.nlTm,h2] at h; cases h
    intro p hp'
    rcases List.mem_cons.1 hp' with rfl | hp'
    ·trivial
    ·exact ih p hp'
   | g p q x=>exact h0.elim
theorem noG_map {f:Cv->Cv} {l:List (Nat×AV)} (h:noG l):noG (mapTm f l):=by
 induction l with
 | nil=>exact h
 | cons p l ih =>
  obtain ⟨k,v⟩:=p
  intro q hq
  rcases List.mem_cons.1 hq with rfl | hq
  ·have:=h (k,v) List.mem_cons_self
   cases v with
   | g=>exact this.elim
   | _=>trivial
  ·exact ih (fun p hp=>h p (List.mem_cons_of_mem _ hp)) q hq
theorem noG_pick (s:St):∀ l:List Nat,noG (pickT s l)
 | []=>fun p hp=>by cases hp
 | t::l=>fun p hp=>by
  rcases List.mem_cons.1 hp with rfl | hp
  ·show (dropG (s.get t)).plain
   cases s.get t<;>trivial
  ·exact noG_pick s l p hp
theorem noG_gfree (h:noG S.tm):gfree S:=fun t p q v hl=>by have:=h _ (lk_mem hl); exact this
theorem get_rel {a:Act} (hT:RelT X S γ a) (t:Nat):RelA S.lk γ (S.get t) (a.tmps.getD t undef):=by
 simp only [St.get]
 cases hl:lk S.tm t with
 | none=>trivial
 | some av=>exact hT.2 t av hl
theorem prune_ok {e0:Lk} {γ0:Gh} {w0:World} {a:Act} (ts vk:List Nat) (hI:InvW X γ0 w0 S γ a w) (h3:I3v e0 γ0 S γ) :
  noG (S.prune ts vk).tm/\∃ γ',Inv X e0 γ0 w0 (S.prune ts vk) γ' a w:=by
 classical
 simp only [St.prune]
 cases ht:S.lk.nlTm 600000 (pickT S ts) with
 | mk tm r1 =>
  cases hv:S.lk.nlVs 700000 (pickVs S.vs vk) with
  | mk vs r2 =>
   simp only
   cases hc:nodupN (keys (r1++r2))&&(disjN (keys (r1++r2)) (keys S.rs)&&kindsOk S.rs) with
   | false=>exact ⟨fun p hp=>(by cases hp),γ,(invW_empty hI).inv fun k row _ _ h=>(by cases h)⟩
   | true =>
    simp only [Bool.and_eq_true] at hc
    obtain ⟨hnd,hdj,_⟩:=hc
    have hnd:=nodupN_iff.1 hnd
    have hdj:=disjN_iff.1 hdj
    simp only
    obtain ⟨V1,hV1,hV1'⟩:=nlTm_ok (X:=X) hI.rel (VT:=fun t=>a.tmps.getD t undef) (fun p hp=>by
     obtain ⟨t,av⟩:=p
     rw [mem_pickT hp]; exact dropG_rel (get_rel hI.tmp t)) ht
    obtain ⟨V2,hV2,hkv,hV2'⟩:=nlVs_ok (X:=X) hI.rel (H:=fun k u=>γ.O (γ.vb k)=some (.v k)/\∃ cur e,w.heap[γ.vb k]? =some (.cells cur e (0,0))/\cur.toList=u) (fun p hp=>by
     obtain ⟨k,cs⟩:=p
     obtain ⟨h1,cur,e,h2,h3⟩:=hI.rel.vs k cs (mem_pickVs hp)
     exact ⟨cur.toList,⟨h1,cur,e,h2,rfl⟩,h3⟩) hv
    have hV:=hV1.append hV2
    have hkeys:∀ j∈keys (r1++r2),600000<=j:=by
     intro j hj
     rw [keys_append,List.mem_append] at hj
     rcases hj with hj | hj
     ·have:=nlTm_keys (m:=S.lk) (pickT S ts) 600000 j (by rw [ht]; exact hj); omega
     ·have:=nlVs_keys (m:=S.lk) (pickVs S.vs vk) 700000 j (by rw [hv]; exact hj); omega
    let rs:=r1++(r2++S.rs)
    let S1:St:=⟨tm,vs++S.vs,rs⟩
    let γ1:Gh:=⟨γ.O,fun k=>match lk (V1++V2) k with | some vc=>vc.1 | none=>γ.rv k,fun k=>match lk (V1++V2) k with | some vc=>vc.2 | none=>γ.cv k,γ.vb⟩
    have hrs:∀ k,lk rs k=match lk (r1++r2) k with | some row=>some row | none=>lk S.rs k:=by
     intro k
     show lk (r1++(r2++S.rs)) k=_
     rw [← List.append_assoc]
     rw [lk_append]
     cases lk (r1++r2) k<;>rfl
    have hlkV:∀ k,k∉keys (r1++r2)->lk (V1++V2) k=none:=fun k hk=>lk_none.2 (by rw [hV.keys]; exact hk)
    have hold:∀ r row,S.lk.r r=some row->S1.lk.r r=some row/\γ1.rv r=γ.rv r/\γ1.cv r=γ.cv r:=by
     intro r row hr
     have hno:r∉keys (r1++r2):=fun hm=>hdj r hm (mem_keys (lk_mem hr))
     refine ⟨?_,?_,?_⟩
     ·show lk rs r=_
      rw [hrs,lk_none.2 hno]; exact hr
     ·show (match lk (V1++V2) r with | some vc=>vc.1 | none=>γ.rv r)=_
      rw [hlkV r hno]
     ·show (match lk (V1++V2) r with | some vc=>vc.2 | none=>γ.cv r)=_
      rw [hlkV r hno]
    have hag:Ag S.lk γ (r1++r2) (V1++V2) S1.lk γ1:=by
     refine ⟨hold,fun k cs hk=> ?_,rfl,fun k row hm=> ?_,fun k vc hm=> ?_⟩
     ·show ∃ cs',lk (vs++S.vs) k=some cs'
      rw [lk_append]
      cases lk vs k with
      | some cs'=>exact ⟨cs',rfl⟩
      | none=>exact ⟨cs,hk⟩
     ·show lk rs k=_
      rw [hrs,lk_of_mem hnd hm]
     ·have:lk (V1++V2) k=some vc:=lk_of_mem (by rw [hV.keys]; exact hnd) hm
      exact ⟨by show (match lk (V1++V2) k with | some vc=>vc.1 | none=>γ.rv k)=_; rw [this],by show (match lk (V1++V2) k with | some vc=>vc.2 | none=>γ.cv k)=_; rw [this]⟩
    have hW1:InvW X γ0 w0 S1 γ1 a w:=by
     refine ⟨⟨fun k cs hk=> ?_,fun k row hk=> ?_⟩,hI.top,⟨hI.tmp.1,fun t av hl=> ?_⟩,hI.df,hI.fr,fun k h1 h2=> ?_,hI.i2⟩
     ·have hk:lk (vs++S.vs) k=some cs:=hk
      rw [lk_append] at hk
      cases hl:lk vs k with
      | some cs' =>
       rw [hl] at hk; cases hk
       obtain ⟨u,⟨h1,cur,e,h2,rfl⟩,h4⟩:=hV2' S1.lk γ1 hag.right (k,cs) (lk_mem hl)
       exact ⟨h1,cur,e,h2,h4⟩
      | none =>
       rw [hl] at hk
       obtain ⟨h1,cur,e,h2,h4⟩:=hI.rel.vs k cs hk
       have:=RelL.map (f:=id) (fun x v hx=>hag.old hx) h4
       rw [List.map_id] at this
       exact ⟨h1,cur,e,h2,this⟩
     ·have hk:lk rs k=some row:=hk
      rw [hrs] at hk
      cases hl:lk (r1++r2) k with
      | some row' =>
       rw [hl] at hk; cases hk
       obtain ⟨vc,h1,h2⟩:=hV.get k row hl
       show RowR X γ.O w k row (match lk (V1++V2) k with | some vc=>vc.1 | none=>γ.rv k) (match lk (V1++V2) k with | some vc=>vc.2 | none=>γ.cv k)
       rw [h1]; exact h2
      | none =>
       rw [hl] at hk
       obtain ⟨_,h2,h3⟩:=hold k row hk
       rw [h2,h3]; exact hI.rel.rs k row hk
     ·exact hV1' S1.lk γ1 hag.left (t,av) (lk_mem hl)
     ·have hno:k∉keys (r1++r2):=fun hm=>by have:=hkeys k hm; omega
      show (match lk (V1++V2) k with | some vc=>vc.1 | none=>γ.rv k)=_
      rw [hlkV k hno]; exact hI.i4 k h1 h2
    have hln:(rowsIn (vcs vs) (rowsIn (tmCs tm) [])).Nodup:=rowsIn_nodup (rowsIn_nodup List.nodup_nil)
    generalize rowsIn (vcs vs) (rowsIn (tmCs tm) [])=rl at hln
    let μl:=renOf rs 0 rl
    have hμn:(keys μl).Nodup:=ren_nodup hln
    let f:=rnCv μl (keys vs)
    let T:St:=⟨mapTm f tm,mapVs f vs,rowsNew rs μl⟩
    let κ:Nat->Nat:=fun r=>match lk rs r with | some row=>row.ow | none=>0
    have hκ:∀ r row,lk rs r=some row->({ row with ow:=κ r }:Row)=row:=by
     intro r row hr
     have:κ r=row.ow:=by show (match lk rs r with | some row=>row.ow | none=>0)=_; rw [hr]
     rw [this]
    have hTr:∀ k row,T.lk.r k=some row->∃ r,(r,k)∈μl/\lk rs r=some row:=fun k row hk=>mem_rowsNew.1 (lk_mem hk)
    have hn:Ren S1 T (fun r=>lk μl r) κ f:=by
     refine ⟨fun r r' k h1 h2=>ren_inj hln (lk_mem h1) (lk_mem h2),fun k row hk=> ?_,fun r k row h1 h2=> ?_,fun r k row h1 h2=> ?_,fun k cs' hk=> ?_,fun t av' hl=> ?_,rfl,fun x=> ?_,fun r k h h1 h2=> ?_⟩
     ·obtain ⟨r,h1,h2⟩:=hTr k row hk
      exact ⟨r,row,lk_of_mem hμn h1,h2,(hκ r row h2).symm⟩
     ·have hm:(k,row)∈rowsNew rs μl:=mem_rowsNew.2 ⟨r,lk_mem h1,h2⟩
      obtain ⟨row',hl⟩:=lk_some_of_mem hm
      obtain ⟨r',h3,h4⟩:=hTr k row' hl
      have:r'=r:=ren_inj hln h3 (lk_mem h1)
      subst this
      have h2':lk rs r'=some row:=h2
      rw [h2'] at h4; cases h4
      rw [hκ r' row h2']; exact hl
     ·have:κ r=row.ow:=by show (match lk rs r with | some row=>row.ow | none=>0)=_; rw [show lk rs r=some row from h2]
      rw [this]; exact kk_self row.ow
     ·have hk:lk (mapVs f vs) k=some cs':=hk
      rw [lk_mapVs] at hk
      cases hl:lk vs k with
      | none=>rw [hl] at hk; cases hk
      | some cs =>
       rw [hl] at hk; cases hk
       refine ⟨cs,?_,rfl⟩
       show lk (vs++S.vs) k=_
       rw [lk_append,hl]
     ·have hl:lk (mapTm f tm) t=some av':=hl
      rw [lk_mapTm] at hl
      cases hl':lk tm t with
      | none=>rw [hl'] at hl; cases hl
      | some av=>rw [hl'] at hl; cases hl; exact ⟨av,by first | rfl | exact hl',rfl⟩
     ·have hvar:∀ k∈keys vs,∃ cs',T.lk.v k=some cs':=by
       intro k hk
       obtain ⟨cs,hcs⟩:=mem_of_lk hk
       exact ⟨cs.map f,by show lk (mapVs f vs) k=_; rw [lk_mapVs,hcs]; rfl⟩
      cases x with
      | sw r =>
       show (match lk μl r with | some k=>Cv.sw k | none=> .un)=_\/_
       cases hl:lk μl r with
       | none=>exact .inl rfl
       | some k=>exact .inr (.inr ⟨r,k,hl,.inl ⟨rfl,by show (match lk μl r with | some k=>Cv.sw k | none=> .un)=_; rw [hl]⟩⟩)
      | sl r o n =>
       show (match lk μl r with | some k=>Cv.sl k o n | none=> .un)=_\/_
       cases hl:lk μl r with
       | none=>exact .inl rfl
       | some k=>exact .inr (.inr ⟨r,k,hl,.inr (.inl ⟨o,n,rfl,by show (match lk μl r with | some k=>Cv.sl k o n | none=> .un)=_; rw [hl]⟩)⟩)
      | nw r o n =>
       show (match lk μl r with | some k=>Cv.nw k o n | none=> .un)=_\/_
       cases hl:lk μl r with
       | none=>exact .inl rfl
       | some k=>exact .inr (.inr ⟨r,k,hl,.inr (.inr (.inl ⟨o,n,rfl,by show (match lk μl r with | some k=>Cv.nw k o n | none=> .un)=_; rw [hl]⟩))⟩)
      | ns r e c o n =>
       show (match lk μl r with | some k=>Cv.ns k e c o n | none=> .un)=_\/_
       cases hl:lk μl r with
       | none=>exact .inl rfl
       | some k=>exact .inr (.inr ⟨r,k,hl,.inr (.inr (.inr (.inl ⟨e,c,o,n,rfl,by show (match lk μl r with | some k=>Cv.ns k e c o n | none=> .un)=_; rw [hl]⟩)))⟩)
      | pe r o n =>
       show (match lk μl r with | some k=>Cv.pe k o n | none=> .un)=_\/_
       cases hl:lk μl r with
       | none=>exact .inl rfl
       | some k=>exact .inr (.inr ⟨r,k,hl,.inr (.inr (.inr (.inr (.inl ⟨o,n,rfl,by show (match lk μl r with | some k=>Cv.pe k o n | none=> .un)=_; rw [hl]⟩))))⟩)
      | pn r e c o n =>
       show (match lk μl r with | some k=>Cv.pn k e c o n | none=> .un)=_\/_
       cases hl:lk μl r with
       | none=>exact .inl rfl
       | some k=>exact .inr (.inr ⟨r,k,hl,.inr (.inr (.inr (.inr (.inr ⟨e,c,o,n,rfl,by show (match lk μl r with | some k=>Cv.pn k e c o n | none=> .un)=_; rw [hl]⟩))))⟩)
      | pv v c =>
       cases hi:idxO v 0 (keys vs) with
       | none=>exact .inl (by show (match idxO v 0 (keys vs) with | some _=>Cv.pv v c | none=> .un)=_; rw [hi])
       | some j=>exact .inr (.inl ⟨by show (match idxO v 0 (keys vs) with | some _=>Cv.pv v c | none=> .un)=_; rw [hi],rfl,fun k hk _ _=>by simp [Cv.vk] at hk; subst hk; exact hvar k (idxO_mem hi)⟩)
      | fn g caps =>
       cases hi:allIn caps (keys vs) with
       | false=>exact .inl (by show (match allIn caps (keys vs) with | true=>Cv.fn g caps | false=> .un)=_; rw [hi])
       | true=>exact .inr (.inl ⟨by show (match allIn caps (keys vs) with | true=>Cv.fn g caps | false=> .un)=_; rw [hi],rfl,fun k hk _ _=>hvar k (allIn_mem hi k hk)⟩)
      | _=>exact .inr (.inl ⟨rfl,rfl,fun k hk=>by simp [Cv.vk] at hk⟩)
     ·obtain ⟨_,row,_,h3⟩:=ren_mem (lk_mem h)
      rcases h3 with ⟨_,h4⟩ | ⟨_,i,_,h4⟩<;>omega
    refine ⟨noG_map (nlTm_plain (noG_pick S ts) ht),?_⟩
    obtain ⟨γ',h1,h2⟩:=hn.ok hW1
    refine ⟨γ',h1.inv fun k row hk1 hk2 hk3 hk4=> ?_⟩
    obtain ⟨r,hr1,hr2⟩:=hTr k row hk3
    obtain ⟨_,row',hr3,hr4⟩:=ren_mem hr1
    rw [hr2] at hr3; cases hr3
    rcases hr4 with ⟨h5,h6⟩ | ⟨_,i,_,h6⟩
    ·subst h6
     have h7:=(keepK_range h5).2.2 hk4
     have hno:k∉keys (r1++r2):=fun hm=>by have:=hkeys k hm; omega
     have h8:S.lk.r k=some row:=by rw [hrs,lk_none.2 hno] at hr2; exact hr2
     obtain ⟨i1,i2,i3⟩:=h3 k row h7 hk2 h8 hk4
     obtain ⟨j1,j2⟩:=h2 k k row (lk_of_mem hμn hr1) hr2
     obtain ⟨_,j3,j4⟩:=hold k row h8
     exact ⟨i1,by rw [j1,j3,i2],by rw [j2,j4,i3]⟩
    ·omega
def exOf:Ex->Exit
 | .normal=> .normal | .exit i=> .exit i | .ret=> .ret
def loops:Code->List Code
 | .loop c=>c::loops c
 | .seq a b=>loops a++loops b
 | .cond _ a b=>loops a++loops b
 | .block _ a=>loops a
 | _=>[]
theorem getLoop_find (n:Nat):∀ c:Code,getLoop n c=(loops c).find? fun d=>Nat.beq (loopId d) n
 | .loop c=>by
  simp only [getLoop,loops,List.find?_cons,getLoop_find n c]
  cases Nat.beq (loopId c) n<;>rfl
 | .seq a b=>by
  simp only [getLoop,loops,List.find?_append,getLoop_find n a,getLoop_find n b]
  cases (loops a).find? fun d=>Nat.beq (loopId d) n<;>rfl
 | .cond _ a b=>by
  simp only [getLoop,loops,List.find?_append,getLoop_find n a,getLoop_find n b]
  cases (loops a).find? fun d=>Nat.beq (loopId d) n<;>rfl
 | .block _ a=>by simp only [getLoop,loops,getLoop_find n a]
 | .skip=>rfl
 | .region .. =>rfl
 | .exit _=>rfl
 | .ret=>rfl
 | .rangeFunc .. =>rfl
 | .scope _=>rfl
 | .label _=>rfl
 | .goto _=>rfl
 | .refuse _=>rfl
theorem loops_trans:∀ {b c:Code},c∈loops b->∀ d∈loops c,d∈loops b
 | .loop a,c,h,d,hd=>by
  simp only [loops,List.mem_cons] at h ⊢
  rcases h with rfl | h
  ·exact .inr hd
  ·exact .inr (loops_trans h d hd)
 | .seq a b,c,h,d,hd=>by
  simp only [loops,List.mem_append] at h ⊢
  exact h.imp (fun h=>loops_trans h d hd) (fun h=>loops_trans h d hd)
 | .cond _ a b,c,h,d,hd=>by
  simp only [loops,List.mem_append] at h ⊢
  exact h.imp (fun h=>loops_trans h d hd) (fun h=>loops_trans h d hd)
 | .block _ a,c,h,d,hd=>by simp only [loops] at h ⊢; exact loops_trans h d hd
 | .skip,c,h,_,_=>by simp [loops] at h
 | .region ..,c,h,_,_=>by simp [loops] at h
 | .exit _,c,h,_,_=>by simp [loops] at h
 | .ret,c,h,_,_=>by simp [loops] at h
 | .rangeFunc ..,c,h,_,_=>by simp [loops] at h
 | .scope _,c,h,_,_=>by simp [loops] at h
 | .label _,c,h,_,_=>by simp [loops] at h
 | .goto _,c,h,_,_=>by simp [loops] at h
 | .refuse _,c,h,_,_=>by simp [loops] at h
def loopIds (c:Code):List Nat:=fmap loopId (loops c)
theorem getLoop_mem {n:Nat} {b c:Code} (h:getLoop n b=some c):c∈loops b/\loopId c=n:=by
 rw [getLoop_find] at h
 exact ⟨List.mem_of_find?_eq_some h,nat_beq (List.find?_some (p:=fun d=>Nat.beq (loopId d) n) h)⟩
theorem getLoop_of {b c:Code} (hn:nodupN (loopIds b)=true) (h:c∈loops b):getLoop (loopId c) b=some c:=by
 have hn2:=nodupN_iff.1 hn
 simp only [loopIds,fmap_eq] at hn2
 rw [getLoop_find]
 clear hn
 revert hn2 h
 generalize loops b=l
 intro h hn
 induction l with
 | nil=>cases h
 | cons x l ih =>
  simp only [List.map_cons,List.nodup_cons] at hn
  rw [List.find?_cons]
  rcases List.mem_cons.1 h with rfl | h
  ·rw [Nat.beq_refl]
  ·have hne:Nat.beq (loopId x) (loopId c)=false:=by
    cases hb:Nat.beq (loopId x) (loopId c) with
    | false=>rfl
    | true=>exact absurd (List.mem_map.2 ⟨c,h,(nat_beq hb).symm⟩) hn.1
   rw [hne]; exact ih h hn.2
section
variable {R:Type} {E:Env R} {L:Live} {body:Code} {lps:Nat->Loop R}
structure LpsOk (X:Ctx) (E:Env R) (L:Live) (body:Code) (lps:Nat->Loop R):Prop where
 z:∀ id i l,lps 0 id i l=fun _=>none
 s:∀ n id i l,lps (n+1) id i l=(fun _=>none)\/∃ c,getLoop id body=some c/\lps (n+1) id i l=round X E L (lps n) c i l
 nd:nodupN (loopIds body)=true
theorem lps_uni (hE:∀ f acs vin,Uni (E.fn f acs vin)) (hl:LpsOk X E L body lps):∀ n id i l,Uni (fun k:Ex×St->Option R=>lps n id i l fun e s=>k (e,s))
 | 0,id,i,l=>by rw [hl.z]; exact Uni.none
 | n+1,id,i,l=>by
  rcases hl.s n id i l with h | ⟨c,_,h⟩
  ·rw [h]; exact Uni.none
  ·rw [h]; exact round_uni hE (lps_uni hE hl n) c i l
variable {e0:Lk} {γ0:Gh} {w0:World}
theorem formOf_ok {k:Sk}:∀ {l:List Sk} {n i:Nat},formOf k n l=some i->∃ sk,n<=i/\l[i-n]? =some sk/\eqSk k sk=true
 | [],n,i,h=>by cases h
 | s::l,n,i,h=>by
  simp only [formOf] at h
  cases hs:eqSk k s with
  | true=>rw [hs] at h; cases h; exact ⟨s,Nat.le_refl _,by simp,hs⟩
  | false =>
   rw [hs] at h
   obtain ⟨sk,h1,h2,h3⟩:=formOf_ok h
   refine ⟨sk,by omega,?_,h3⟩
   rw [show i-n=(i-(n+1))+1 by omega]; simpa using h2
def LpR (X:Ctx) (E:Env R) (L:Live) (body:Code) (lps:Nat->Loop R) (e0:Lk) (γ0:Gh) (w0:World) (n:Nat):Prop :=
 ∀ (c:Code) (A:Ann) (i:Nat) (l:List Val) (sk:Sk) (s:St) (e:Ex) (s':St) (γ:Gh) (a:Act) (w:World) (Q:Exit->Act->World->Prop),getLoop (loopId c) body=some c->lk L (loopId c)=some A ->
  nth A.sk i=some sk->unflat sk l=some s->gfree s->Inv X e0 γ0 w0 s γ a w->(∀ K:Ex×St->Option R,(lps n (loopId c) i l fun e s=>K (e,s))=K (e,s')) ->
  (gfree s'->∀ γ' a' w',Inv X e0 γ0 w0 s' γ' a' w'->Q (exOf e) a' w')->Code.rounds X.P c Q n a w
theorem head_ok (r0:R) {n:Nat} (hl:LpR X E L body lps e0 γ0 w0 n) {c:Code} (hc:getLoop (loopId c) body=some c) {s:St} {e:Ex} {s':St} {γ:Gh} {a:Act} {w:World} {Q:Exit->Act->World->Prop}
  (hI:Inv X e0 γ0 w0 s γ a w) (hK:∀ K:Ex×St->Option R,(exec X E L (lps n) (.loop c) s fun e s=>K (e,s))=K (e,s'))
  (hQ:gfree s'->∀ γ' a' w',Inv X e0 γ0 w0 s' γ' a' w'->Q (exOf e) a' w'):Code.rounds X.P c Q n a w:=by
 simp only [exec] at hK
 cases hA:lk L (loopId c) with
 | none=>simp only [hA] at hK; exact (ev_none r0 hK).elim
 | some A =>
  simp only [hA] at hK
  obtain ⟨γ1,hW,h3⟩:=freeze_ok A.fz hI
  obtain ⟨hng,γ2,hI2⟩:=prune_ok A.ts A.vk hW h3
  revert hK
  generalize hS1:(s.freeze A.fz).prune A.ts A.vk=S1 at hng hI2
  intro hK
  cases hf:flat S1 with
  | mk k l =>
   simp only [hf] at hK
   cases hfo:formOf k 0 A.sk with
   | none=>simp only [hfo] at hK; exact (ev_none r0 hK).elim
   | some i =>
    simp only [hfo] at hK
    obtain ⟨sk,_,h2,h4⟩:=formOf_ok hfo
    have h4':eqSk (flat S1).1 sk=true:=by rw [hf]; exact h4
    obtain ⟨γ3,hI3⟩:=unflat_ok h4' hI2
    have hu:unflat sk l=some ⟨S1.tm,S1.vs,lowRs S1.rs sk.rs⟩:=by
     have:=unflat_eq hng h4'; rw [hf] at this; exact this
    exact hl c A i l sk _ e s' γ3 a w Q hc hA (by rw [nth_eq]; simpa using h2) hu (noG_gfree (S:=⟨S1.tm,S1.vs,lowRs S1.rs sk.rs⟩) hng) hI3 hK hQ
theorem exec_ok (r0:R) (hX:CtxOk X) (hE:EnvOk X E) (hl0:LpsOk X E L body lps) {n:Nat} (hl:LpR X E L body lps e0 γ0 w0 n) :
  ∀ (c:Code) (s:St) (e:Ex) (s':St) (γ:Gh) (a:Act) (w:World) (Q:Exit->Act->World->Prop),(∀ d∈loops c,getLoop (loopId d) body=some d)->gfree s->Inv X e0 γ0 w0 s γ a w ->
   (∀ K:Ex×St->Option R,(exec X E L (lps n) c s fun e s=>K (e,s))=K (e,s')) ->
   (gfree s'->∀ γ' a' w',Inv X e0 γ0 w0 s' γ' a' w'->Q (exOf e) a' w')->c.wp X.P Q a w
 | .skip,s,e,s',γ,a,w,Q,_,hg,hI,hK,hQ=>by
  have:=ev_inj r0 hK; cases this
  exact wp_skip (hQ hg γ a w hI)
 | .exit id,s,e,s',γ,a,w,Q,_,hg,hI,hK,hQ=>by
  have:=ev_inj r0 hK; cases this
  exact wp_exit (hQ hg γ a w hI)
 | .ret,s,e,s',γ,a,w,Q,_,hg,hI,hK,hQ=>by
  have:=ev_inj r0 hK; cases this
  exact wp_ret (hQ hg γ a w hI)
 | .region id ops draw,s,e,s',γ,a,w,Q,_,hg,hI,hK,hQ=>by
  simp only [exec] at hK
  obtain ⟨oc,hoc⟩:=execReg_uni (X:=X) hE.uni ops draw s
  cases oc with
  | none=>exact (ev_none r0 (α:=Ex×St) (y:=(e,s')) fun K=>(hoc fun s=>K (.normal,s)).symm.trans (hK K)).elim
  | some s1 =>
   have:(Ex.normal,s1)=(e,s'):=ev_inj r0 fun K=>(hoc fun s=>K (.normal,s)).symm.trans (hK K)
   cases this
   exact reg_ok r0 hX hE hoc hg hI hQ
 | .seq x y,s,e,s',γ,a,w,Q,hd,hg,hI,hK,hQ=>by
  simp only [exec] at hK
  obtain ⟨oc,hoc⟩:=exec_uni hE.uni (fun c i l=>lps_uni hE.uni hl0 n c i l) x s
  have hdx:∀ d∈loops x,getLoop (loopId d) body=some d:=fun d h=>hd d (by simp only [loops,List.mem_append]; exact .inl h)
  have hdy:∀ d∈loops y,getLoop (loopId d) body=some d:=fun d h=>hd d (by simp only [loops,List.mem_append]; exact .inr h)
  let F:(Ex×St->Option R)->Ex×St->Option R:=fun K x=>match x.1 with
   | .normal=>exec X E L (lps n) y x.2 fun e s=>K (e,s)
   | e=>K (e,x.2)
  have hF:∀ K,oc.bind (F K)=K (e,s'):=fun K=>(hoc (F K)).symm.trans (hK K)
  cases oc with
  | none=>exact (ev_none r0 hF).elim
  | some x1 =>
   obtain ⟨e1,s1⟩:=x1
   refine wp_seq (exec_ok r0 hX hE hl0 hl x s e1 s1 γ a w _ hdx hg hI hoc fun hg1 γ1 a1 w1 hI1=> ?_)
   cases e1 with
   | normal=>exact exec_ok r0 hX hE hl0 hl y s1 e s' γ1 a1 w1 Q hdy hg1 hI1 hF hQ
   | exit i =>
    have:=ev_inj r0 hF; cases this
    exact hQ hg1 γ1 a1 w1 hI1
   | ret =>
    have:=ev_inj r0 hF; cases this
    exact hQ hg1 γ1 a1 w1 hI1
 | .cond c x y,s,e,s',γ,a,w,Q,hd,hg,hI,hK,hQ=>by
  have hdx:∀ d∈loops x,getLoop (loopId d) body=some d:=fun d h=>hd d (by simp only [loops,List.mem_append]; exact .inl h)
  have hdy:∀ d∈loops y,getLoop (loopId d) body=some d:=fun d h=>hd d (by simp only [loops,List.mem_append]; exact .inr h)
  simp only [exec] at hK
  revert hK; split
  ·rename_i b hb
   intro hK
   have hv:=opnd_g (s':=s) hI.tmp (gfree_GInv hg) (fun _ _ h=>h) (p:=[]) (fun x hx=>by cases hx) 0 c
   rw [hb] at hv
   have hv:a.eval c= .bool b:=hv
   cases b with
   | true=>exact wp_cond hv (exec_ok r0 hX hE hl0 hl x s e s' γ a w Q hdx hg hI hK hQ)
   | false=>exact wp_cond hv (exec_ok r0 hX hE hl0 hl y s e s' γ a w Q hdy hg hI hK hQ)
  ·intro hK; exact (ev_none r0 hK).elim
 | .block id c,s,e,s',γ,a,w,Q,hd,hg,hI,hK,hQ=>by
  simp only [exec] at hK
  obtain ⟨oc,hoc⟩:=exec_uni hE.uni (fun c i l=>lps_uni hE.uni hl0 n c i l) c s
  let F:(Ex×St->Option R)->Ex×St->Option R:=fun K x=>match x.1 with
   | .exit i=>match Nat.beq i id with
    | true=>K (.normal,x.2)
    | false=>K (x.1,x.2)
   | e=>K (e,x.2)
  have hF:∀ K,oc.bind (F K)=K (e,s'):=fun K=>(by
   refine (hoc (F K)).symm.trans (Eq.trans ?_ (hK K))
   congr 1)
  cases oc with
  | none=>exact (ev_none r0 hF).elim
  | some x1 =>
   obtain ⟨e1,s1⟩:=x1
   refine wp_block (exec_ok r0 hX hE hl0 hl c s e1 s1 γ a w _ hd hg hI hoc fun hg1 γ1 a1 w1 hI1=> ?_)
   cases e1 with
   | normal =>
    have:=ev_inj r0 hF; cases this
    exact hQ hg1 γ1 a1 w1 hI1
   | ret =>
    have:=ev_inj r0 hF; cases this
    exact hQ hg1 γ1 a1 w1 hI1
   | exit i =>
    have hF:∀ K:Ex×St->Option R,(match Nat.beq i id with | true=>K (.normal,s1) | false=>K (.exit i,s1))=K (e,s'):=hF
    show (if i=id then Q .normal a1 w1 else Q (.exit i) a1 w1)
    cases hb:Nat.beq i id with
    | true =>
     have:=nat_beq hb; subst this
     rw [if_pos rfl]
     simp only [hb] at hF
     have:=ev_inj r0 hF; cases this
     exact hQ hg1 γ1 a1 w1 hI1
    | false =>
     have hne:i≠id:=fun h=>by subst h; rw [Nat.beq_refl] at hb; cases hb
     rw [if_neg hne]
     simp only [hb] at hF
     have:=ev_inj r0 hF; cases this
     exact hQ hg1 γ1 a1 w1 hI1
 | .loop c,s,e,s',γ,a,w,Q,hd,hg,hI,hK,hQ =>
  wp_loop_rounds n (head_ok r0 hl (hd c (by simp only [loops]; exact List.mem_cons_self)) hI hK hQ)
 | .rangeFunc ..,s,e,s',γ,a,w,Q,_,hg,hI,hK,hQ=>(ev_none r0 hK).elim
 | .scope _,s,e,s',γ,a,w,Q,_,hg,hI,hK,hQ=>(ev_none r0 hK).elim
 | .label _,s,e,s',γ,a,w,Q,_,hg,hI,hK,hQ=>(ev_none r0 hK).elim
 | .goto _,s,e,s',γ,a,w,Q,_,hg,hI,hK,hQ=>(ev_none r0 hK).elim
 | .refuse _,s,e,s',γ,a,w,Q,_,hg,hI,hK,hQ=>(ev_none r0 hK).elim
theorem leave_ok {s:St} {γ:Gh} {a:Act} {w:World} (A:Ann) (e:Ex) (hg:gfree s) (hI:Inv X e0 γ0 w0 s γ a w):gfree (A.leave e s)/\∃ γ',Inv X e0 γ0 w0 (A.leave e s) γ' a w:=by
 simp only [Ann.leave]
 cases lk A.out e.num with
 | none=>exact ⟨hg,γ,hI⟩
 | some p =>
  obtain ⟨ts,vk⟩:=p
  obtain ⟨h1,h2⟩:=prune_ok ts vk hI.weak fun k row h1 h2=>hI.i3 k row (by omega) h2
  exact ⟨noG_gfree h1,h2⟩
theorem lpR (r0:R) (hX:CtxOk X) (hE:EnvOk X E) (hl:LpsOk X E L body lps):∀ n,LpR X E L body lps e0 γ0 w0 n
 | 0=>by
  intro c A i l sk s e s' γ a w Q hc hA hsk hu hg hI hK hQ
  rw [hl.z] at hK
  exact (ev_none r0 hK).elim
 | n+1=>by
  intro c A i l sk s e s' γ a w Q hc hA hsk hu hg hI hK hQ
  have ih:=lpR r0 hX hE hl n
  rcases hl.s n (loopId c) i l with h | ⟨c',hc',h⟩
  ·rw [h] at hK; exact (ev_none r0 hK).elim
  ·rw [hc] at hc'; cases hc'
   rw [h] at hK
   simp only [round,hA,hsk,hu] at hK
   obtain ⟨oc,hoc⟩:=exec_uni hE.uni (fun c i l=>lps_uni hE.uni hl n c i l) c s
   let F:(Ex×St->Option R)->Ex×St->Option R:=fun K x=>match x.1 with
    | .normal=>exec X E L (lps n) (.loop c) x.2 fun e s=>K (e,s)
    | e=>K (e,A.leave e x.2)
   have hF:∀ K,oc.bind (F K)=K (e,s'):=fun K=>(hoc (F K)).symm.trans (hK K)
   have hcm:=(getLoop_mem hc).1
   have hd:∀ d∈loops c,getLoop (loopId d) body=some d:=fun d h=>getLoop_of hl.nd (loops_trans hcm d h)
   cases oc with
   | none=>exact (ev_none r0 hF).elim
   | some x1 =>
    obtain ⟨e1,s1⟩:=x1
    rw [rounds_succ]
    refine exec_ok r0 hX hE hl ih c s e1 s1 γ a w _ hd hg hI hoc fun hg1 γ1 a1 w1 hI1=> ?_
    cases e1 with
    | normal=>exact head_ok r0 ih hc hI1 hF hQ
    | exit j =>
     have:=ev_inj r0 hF; cases this
     obtain ⟨h1,γ2,h2⟩:=leave_ok A (.exit j) hg1 hI1
     exact hQ h1 γ2 a1 w1 h2
    | ret =>
     have:=ev_inj r0 hF; cases this
     obtain ⟨h1,γ2,h2⟩:=leave_ok A .ret hg1 hI1
     exact hQ h1 γ2 a1 w1 h2
end
end Go.Soft
namespace Go.Soft
open Go
variable {X:Ctx} {m M:Lk} {γ γ':Gh} {w w':World} {ρ:Operand->Value} {S T:St} {δ δ':Dl}
theorem RowR.pre {O:OM} {k d:Nat} {τ:Ty} {xs:List (El τ)} {v u:Value} {cs:List Value} (hd:hdK d=true) (h:RowR X O w k ⟨τ,xs,d⟩ v cs) {len:Nat} (hle:len<=xs.length) (hs:SubV (sz τ) v 0 len u) :
  RowR X O w k ⟨τ,sub xs 0 len,d⟩ u (cs.take (len*sz τ)):=by
 have hl:(sub xs 0 len).length=len:=sub_length xs (by omega)
 have own:∀ t,w.ownsRow 0 (X.id τ) (sz τ) v xs.length cs->(∀ g,v.ownBlock=some g->O g=some t)->w.ownsRow 0 (X.id τ) (sz τ) u len (cs.take (len*sz τ))/\∀ g,u.ownBlock=some g->O g=some t:=by
  intro t ho hb
  rcases hs with ⟨rfl,rfl,rfl⟩ | ⟨g,o,n,cap,o',cap',rfl,rfl,⟨h1,h2⟩,h3,h4,_⟩
  ·exact ⟨by simpa using World.ownsRow_nil w 0 _ _,by simp [Value.ownBlock]⟩
  ·obtain ⟨hlen,ho⟩:=ho
   rcases ho with ⟨hn,_⟩ | ⟨g',cap2,cur,hv,hb',hg,hnc,hmx,hsz,ht⟩
   ·cases hn
   ·injection hv with e1 e2 e3
    injection e1 with e1
    injection e1 with e4 e5 _
    subst e4; subst e5; subst e3
    have ho':o'=0:=by omega
    subst ho'
    have hcc:cap'=cap:=by omega
    subst hcc
    have hm:len*sz τ<=xs.length*sz τ:=Nat.mul_le_mul_right _ hle
    refine ⟨⟨by rw [List.length_take]; omega,.inr ⟨g,cap',cur,rfl,hb',hg,h1,hmx,hsz,?_⟩⟩,fun b hb2=>hb b (by simpa [Value.ownBlock] using hb2)⟩
    rw [← ht,List.take_take]; congr 1; omega
 refine ⟨?_,fun e c ct he hc=> ?_⟩
 ·show Sl X O w (topC k d) τ u (sub xs 0 len).length _
  rw [hl]
  have ht:=h.top
  rcases hdK_cases hd with rfl | rfl | rfl
  ·have ht:SlF (fun g=>In .fz (O g)) w (sz τ) v xs.length cs:=ht
   have h2:=ht.sub (off:=0) (len:=len) (by omega) hs
   have h3:SlF (fun g=>In .fz (O g)) w (sz τ) u len (cs.take (len*sz τ)):=by simpa using h2
   exact h3
  ·exact own _ ht.1 ht.2
  ·exact own _ ht.1 ht.2
 ·have he:e<(sub xs 0 len).length:=he
  rw [hl] at he
  have hc:(cells τ ((sub xs 0 len).getD e (dflt τ)))[c]? =some ct:=hc
  rw [sub_getD xs _ he,Nat.zero_add] at hc
  obtain ⟨x,hx,hr⟩:=h.cel e c ct (show e<xs.length by omega) hc
  refine ⟨x,?_,hr⟩
  have hc':c<sz τ:=by have:=(List.getElem?_eq_some_iff.1 hc).1; rwa [cells_length] at this
  have:e*sz τ+c<len*sz τ:=by
   have:=Nat.mul_le_mul_right (sz τ) (show e+1<=len from he)
   rw [Nat.add_mul] at this; omega
  show (cs.take (len*sz τ))[e*sz τ+c]? =_
  rw [List.getElem?_take,if_pos this]; exact hx
theorem slK_hd {off w:Nat} (h:slK off w=true):hdK w=true:=by
 cases off with
 | zero=>exact h
 | succ o=>have:w=3:=nat_beq h; subst this; rfl
theorem RowR.part {O:OM} {k d:Nat} {τ:Ty} {xs:List (El τ)} {v u:Value} {cs:List Value} {off len:Nat} (hd:slK off d=true) (h:RowR X O w k ⟨τ,xs,d⟩ v cs) (hle:off+len<=xs.length) (hs:SubV (sz τ) v off len u) :
  ∃ cs',RowR X O w k ⟨τ,sub xs off len,d⟩ u cs':=by
 cases off with
 | zero=>exact ⟨_,h.pre hd (by omega) hs⟩
 | succ o =>
  have hd3:d=3:=nat_beq hd
  subst hd3
  have hl:(sub xs (o+1) len).length=len:=sub_length xs hle
  have ht:SlF (fun g=>In .fz (O g)) w (sz τ) v xs.length cs:=h.top
  have h2:=ht.sub (off:=o+1) (len:=len) hle hs
  refine ⟨((cs.drop ((o+1)*sz τ)).take (len*sz τ)),?_,fun e c ct he hc=> ?_⟩
  ·show Sl X O w (topC k 3) τ u (sub xs (o+1) len).length _
   rw [hl]
   exact h2
  ·have he:e<(sub xs (o+1) len).length:=he
   rw [hl] at he
   have hc:(cells τ ((sub xs (o+1) len).getD e (dflt τ)))[c]? =some ct:=hc
   rw [sub_getD xs _ he] at hc
   obtain ⟨x,hx,hr⟩:=h.cel (o+1+e) c ct (show o+1+e<xs.length by omega) hc
   refine ⟨x,?_,hr⟩
   have hc':c<sz τ:=by have:=(List.getElem?_eq_some_iff.1 hc).1; rwa [cells_length] at this
   have:e*sz τ+c<len*sz τ:=by
    have:=Nat.mul_le_mul_right (sz τ) (show e+1<=len from he)
    rw [Nat.add_mul] at this; omega
   show ((cs.drop ((o+1)*sz τ)).take (len*sz τ))[e*sz τ+c]? =_
   rw [List.getElem?_take,if_pos this,List.getElem?_drop,← Nat.add_assoc,← Nat.add_mul]; exact hx
def rbE (G:List (Nat×Nat)):Rb:=⟨fun r=>some (r,match lk G r with | some d=>d | none=>5),none,fun k=>some (.v k)⟩
def endO (G:List (Nat×Nat)) (O:OM):OM:=fun g=>(O g).bind (rbE G).f
theorem rbE_no {G:List (Nat×Nat)} {r:Nat} (h:r∉keys G):(rbE G).r r=some (r,5):=by
 show some (r,match lk G r with | some d=>d | none=>5)=_
 rw [lk_none.2 h]
theorem endO_fam {G:List (Nat×Nat)} {O:OM} {r g:Nat} (h:r∉keys G) (hf:Fam r (O g)):Fam r (endO G O g):=by
 have e1:(rbE G).f (.r r)=some (.r r):=by simp only [Rb.f,rbE_no h]; rfl
 have e2:∀ e c,(rbE G).f (.n r e c)=some (.n r e c):=fun e c=>by simp only [Rb.f,rbE_no h]; rfl
 simp only [endO]
 rcases hf with hf | hf | hf | ⟨e,c,hf⟩<;>rw [hf]
 ·exact .inl rfl
 ·exact .inr (.inl rfl)
 ·exact .inr (.inr (.inl e1))
 ·exact .inr (.inr (.inr ⟨e,c,e2 e c⟩))
theorem handed_ok (hR:Rel X m γ w) {G:List (Nat×Nat)} {r d:Nat} {row:Row} (hr:m.r r=some row) (hG:lk G r=some d) (hle:leK d row.ow=true) :
  RowR X (endO G γ.O) w r { row with ow:=d } (γ.rv r) (γ.cv r) :=
 (hR.rs r row hr).relabel (a:=rbE G) (fun _=>by show some (r,match lk G r with | some d=>d | none=>5)=_; rw [hG]) hle fun g o hg _=>⟨hg,rfl⟩
section
variable {e0:Lk} {γ0:Gh} {w0:World} {a:Act}
theorem keyA_inv {r p j:Nat} (h:keyA r=some (p,j)):r=100000+p*64+j/\j<64/\100000<=r/\r<200000:=by
 simp only [keyA] at h
 revert h; split
 ·rename_i h1 h2
  intro h
  have h1:=Nat.le_of_ble_eq_true h1
  have h2:=Nat.le_of_ble_eq_true h2
  simp only [Option.some.injEq,Prod.mk.injEq] at h
  obtain ⟨rfl,rfl⟩:=h
  omega
 ·intro h; cases h
theorem bor1_inv {r:Nat} (h:m.bor1 r=true):∃ row,m.r r=some row/\row.ow=1:=by
 simp only [Lk.bor1] at h
 cases hr:m.r r with
 | none=>rw [hr] at h; cases h
 | some row=>rw [hr] at h; exact ⟨row,rfl,nat_beq h⟩
theorem outM_ok (hI:Inv X e0 γ0 w0 S γ a w) {x:Cv} {y:Ct} {v:Value} (hx:RelC S.lk γ x v) (h:(S.lk.vw x).ct=some y) {G:List (Nat×Nat)} (hs:∀ r∈x.rk,r∉keys G) :
  RelRc X e0 γ0 (keys G) (endO G γ.O) w 1 (.m y) v []:=by
 refine ⟨rfl,hx.one hI.rel,?_⟩
 cases y with
 | l τ xs =>
  have ⟨⟨cs,hv⟩,_⟩:=vw_vis (Le.refl _) hI.rel hx h
  refine ⟨cs,hv.mono fun g o hg ha=>⟨hg,?_⟩⟩
  simp only [RefA] at ha
  cases hr:x.row with
  | none=>rw [hr] at ha; exact ha.elim
  | some r =>
   rw [hr] at ha
   have hno:=hs r (by simp [Cv.rk,hr])
   exact ⟨r,hno,endO_fam hno ha⟩
 | _=>revert h; cases S.lk.vw x<;>simp [Vw.ct]
theorem outC_ok (hI:Inv X e0 γ0 w0 S γ a w) {wd:Nat} {x:Cv} {y:Rc} {ks:List Nat} {v:Value} (hx:RelC S.lk γ x v) (h:S.lk.outC wd x=some (y,ks)) {G:List (Nat×Nat)} (hG:∀ r∈ks,lk G r=some wd)
  (hs:wd=1->∀ r∈x.rk,r∉keys G):RelRc X e0 γ0 (keys G) (endO G γ.O) w wd y v ks:=by
 have one:=hx.one hI.rel
 have unk:∀ {y:Rc} {ks:List Nat},some (Rc.un,([]:List Nat))=some (y,ks)->RelRc X e0 γ0 (keys G) (endO G γ.O) w wd y v ks:=by
  intro y ks h; cases h; exact ⟨rfl,one⟩
 have own:∀ {y:Rc} {ks:List Nat} {τ:Ty} {xs:List (El τ)} {r:Nat} {cs:List Value},hdK wd=true->RowR X (endO G γ.O) w r ⟨τ,xs,wd⟩ v cs->some (Rc.c (.l τ xs),[r])=some (y,ks)->RelRc X e0 γ0 (keys G) (endO G γ.O) w wd y v ks:=by
  intro y ks τ xs r cs hd hr h
  cases h
  exact ⟨.inl hd,.inr ⟨r,cs,rfl,hr⟩⟩
 have mm:∀ {y:Rc} {ks:List Nat},wd=1->(match (S.lk.vw x).ct with | some y=>some (Rc.m y,([]:List Nat)) | none=>none)=some (y,ks)->RelRc X e0 γ0 (keys G) (endO G γ.O) w wd y v ks:=by
  intro y ks h1 h
  cases hc:(S.lk.vw x).ct with
  | none=>rw [hc] at h; cases h
  | some c=>rw [hc] at h; cases h; subst h1; exact outM_ok hI hx hc (hs rfl)
 cases x with
 | un =>
  simp only [Lk.outC] at h
  revert h; split
  ·exact unk
  ·intro h; cases h
 | b z=>cases h; exact ⟨rfl,hx⟩
 | i k n=>cases h; exact ⟨rfl,hx⟩
 | s z=>cases h; exact ⟨rfl,hx⟩
 | nl τ =>
  simp only [Lk.outC] at h
  revert h; split
  ·intro h; cases h
   exact ⟨rfl,one,[],⟨by simp,.inl ⟨hx,rfl⟩⟩,fun e c ct he=>by simp at he⟩
  ·exact unk
  ·intro h; cases h; exact ⟨.inr rfl,.inl ⟨rfl,hx,rfl⟩⟩
  ·cases hd:hdK wd with
   | false=>intro h; cases h
   | true=>intro h; cases h; exact ⟨.inl hd,.inl ⟨rfl,hx,rfl⟩⟩
 | sw r =>
  obtain ⟨⟨row,hr⟩,hv⟩:=hx
  simp only [Lk.outC] at h
  revert h; split
  ·exact mm rfl
  ·exact unk
  ·split
   ·rename_i p j hk hb
    intro h; cases h
    obtain ⟨h1,h2,h3,h4⟩:=keyA_inv hk
    obtain ⟨row',hr',ho⟩:=bor1_inv hb
    rw [hr] at hr'; cases hr'
    obtain ⟨i1,i2,i3⟩:=hI.i3 r row h3 (by omega) hr ho
    subst h1
    exact ⟨rfl,row,h2,h4,i1,by rw [hv,i2]⟩
   ·intro h; cases h
  ·rw [hr]; simp only
   cases hd:hdK wd with
   | false=>intro h; cases h
   | true =>
    cases hle:leK wd row.ow with
    | false=>intro h; cases h
    | true =>
     intro h
     have hrow:=handed_ok hI.rel (G:=G) hr (d:=wd) (hG r (by cases h; simp)) hle
     rw [← hv] at hrow
     exact own hd hrow h
 | sl r off len =>
  obtain ⟨row,hr,hle',hsub⟩:=hx
  simp only [Lk.outC] at h
  revert h; split
  ·exact mm rfl
  ·exact unk
  ·intro h; cases h
  ·simp only [hr]
   cases hd:slK off wd with
   | false=>intro h; cases h
   | true =>
    cases hle:leK wd row.ow with
    | false=>intro h; cases h
    | true =>
     intro h
     have hrow:=handed_ok hI.rel (G:=G) hr (d:=wd) (hG r (by cases h; simp)) hle
     obtain ⟨cs',hp⟩:=hrow.part hd hle' hsub
     exact own (slK_hd hd) hp h
 | nw r e c =>
  obtain ⟨row,τ,ys,hr,he,hc,hu⟩:=hx
  simp only [Lk.outC] at h
  revert h; split
  ·exact mm rfl
  ·exact unk
  ·split
   ·rename_i p j hk hb
    intro h; cases h
    obtain ⟨h1,h2,h3,h4⟩:=keyA_inv hk
    obtain ⟨row',hr',ho⟩:=bor1_inv hb
    rw [hr] at hr'; cases hr'
    obtain ⟨i1,i2,i3⟩:=hI.i3 r row h3 (by omega) hr ho
    subst h1
    exact ⟨rfl,row,τ,ys,h2,h4,i1,he,hc,by rw [← i3]; exact hu⟩
   ·intro h; cases h
  ·intro h; cases h
 | ns r e c off len =>
  simp only [Lk.outC] at h
  revert h; split
  ·exact mm rfl
  ·exact unk
  ·intro h; cases h
  ·intro h; cases h
 | pv k c =>
  simp only [Lk.outC] at h
  revert h; split
  ·exact mm rfl
  ·exact unk
  ·intro h; cases h
  ·intro h; cases h
 | pe r e c =>
  simp only [Lk.outC] at h
  revert h; split
  ·exact mm rfl
  ·exact unk
  ·intro h; cases h
  ·intro h; cases h
 | pn r e c k d =>
  simp only [Lk.outC] at h
  revert h; split
  ·exact mm rfl
  ·exact unk
  ·intro h; cases h
  ·intro h; cases h
 | fn f caps =>
  simp only [Lk.outC] at h
  revert h; split
  ·exact mm rfl
  ·exact unk
  ·intro h; cases h
  ·intro h; cases h
def gOf (ks:List Nat) (d:Nat):List (Nat×Nat):=ks.map fun r=>(r,d)
theorem keys_gOf (ks:List Nat) (d:Nat):keys (gOf ks d)=ks:=by simp [gOf,keys_eq,Function.comp_def]
theorem gOf_mem {ks:List Nat} {d:Nat} {G:List (Nat×Nat)} (h:∀ p∈gOf ks d,lk G p.1=some p.2):∀ r∈ks,lk G r=some d:=fun r hr=>h (r,d) (List.mem_map.2 ⟨r,hr,rfl⟩)
theorem outCs_ok (hI:Inv X e0 γ0 w0 S γ a w):∀ {l:List Cv} {us:List Value} {ms:List Nat} {ys:List Rc} {ks:List Nat},RelL S.lk γ l us->S.lk.outCs ms l=some (ys,ks) ->
  ∃ g,keys g=ks/\∀ G,(∀ p∈g,lk G p.1=some p.2)->(∀ r∈shCs ms l,r∉keys G)->RelRcs X e0 γ0 (keys G) (endO G γ.O) w ms ys us ks
 | [],us,ms,ys,ks,hl,h=>by cases hl; cases h; exact ⟨[],rfl,fun G _ _=> .nil⟩
 | x::l,us,ms,ys,ks,hl,h=>by
  cases hl with
  | cons hx hl =>
   simp only [Lk.outCs] at h
   cases h1:S.lk.outC (hd ms) x with
   | none=>simp [h1] at h
   | some p =>
    obtain ⟨y,k⟩:=p
    cases h2:S.lk.outCs (tl ms) l with
    | none=>simp [h1,h2] at h
    | some q =>
     obtain ⟨yl,kl⟩:=q
     simp only [h1,h2,Option.some.injEq,Prod.mk.injEq] at h
     obtain ⟨rfl,rfl⟩:=h
     obtain ⟨g,hg,ih⟩:=outCs_ok hI hl h2
     refine ⟨gOf k (hd ms)++g,by rw [keys_append,keys_gOf,hg],fun G hG hs=> .cons (outC_ok hI hx h1 (gOf_mem fun p hp=>hG p (List.mem_append_left _ hp)) fun hm r hr=>hs r ?_) (ih G (fun p hp=>hG p (List.mem_append_right _ hp)) fun r hr=>hs r ?_)⟩
     ·simp only [shCs,hm,List.mem_append]; exact .inl hr
     ·simp only [shCs,List.mem_append]; exact .inr hr
theorem outTs_ok (hI:Inv X e0 γ0 w0 S γ a w):∀ {l:List (Bool×List Cv)} {us:List Value} {ms:List (List Nat)} {ys:List (Bool×List Rc)} {ks:List Nat},RelTs S.lk γ l us->S.lk.outTs ms l=some (ys,ks) ->
  ∃ g,keys g=ks/\∀ G,(∀ p∈g,lk G p.1=some p.2)->(∀ r∈shTs ms l,r∉keys G)->RelRts X e0 γ0 (keys G) (endO G γ.O) w ms ys us ks
 | [],us,ms,ys,ks,hl,h=>by cases hl; cases h; exact ⟨[],rfl,fun G _ _=> .nil⟩
 | (b,x)::l,us,ms,ys,ks,hl,h=>by
  cases hl with
  | cons hx hl =>
   obtain ⟨u,hu,hb1,hb2⟩:=hx
   simp only [Lk.outTs] at h
   cases h1:S.lk.outCs (hdL ms) x with
   | none=>simp [h1] at h
   | some p =>
    obtain ⟨y,k⟩:=p
    cases h2:S.lk.outTs (tl ms) l with
    | none=>simp [h1,h2] at h
    | some q =>
     obtain ⟨yl,kl⟩:=q
     simp only [h1,h2,Option.some.injEq,Prod.mk.injEq] at h
     obtain ⟨rfl,rfl⟩:=h
     obtain ⟨g1,hg1,i1⟩:=outCs_ok hI hu h1
     obtain ⟨g,hg,ih⟩:=outTs_ok hI hl h2
     refine ⟨g1++g,by rw [keys_append,hg1,hg],fun G hG hs=> .cons (i1 G (fun p hp=>hG p (List.mem_append_left _ hp)) fun r hr=>hs r ?_) hb1 hb2 (ih G (fun p hp=>hG p (List.mem_append_right _ hp)) fun r hr=>hs r ?_)⟩
     ·simp only [shTs,List.mem_append]; exact .inl hr
     ·simp only [shTs,List.mem_append]; exact .inr hr
theorem outR_ok (hI:Inv X e0 γ0 w0 S γ a w) {v:AV} {u:Value} {rl:List (List Nat)} {rc:RC} {ks:List Nat} (hv:RelA S.lk γ v u) (h:S.lk.outR rl v=some (rc,ks)) :
  ∃ g,keys g=ks/\∀ G,(∀ p∈g,lk G p.1=some p.2)->(∀ r∈S.lk.shR rl v,r∉keys G)->RelRes X e0 γ0 (keys G) (endO G γ.O) w rl rc u ks:=by
 cases v with
 | c x =>
  have one:RelC S.lk γ x u->(match S.lk.outC (hd (hdL rl)) x with | some (y,a)=>some (RC.c y,a) | none=>none)=some (rc,ks)->S.lk.shR rl (.c x)=shCs (hdL rl) [x] ->
    ∃ g,keys g=ks/\∀ G,(∀ p∈g,lk G p.1=some p.2)->(∀ r∈S.lk.shR rl (.c x),r∉keys G)->RelRes X e0 γ0 (keys G) (endO G γ.O) w rl rc u ks:=by
   intro hx h hsh
   cases h1:S.lk.outC (hd (hdL rl)) x with
   | none=>rw [h1] at h; cases h
   | some p =>
    obtain ⟨y,k⟩:=p
    rw [h1] at h; cases h
    refine ⟨gOf ks (hd (hdL rl)),keys_gOf _ _,fun G hG hs=>outC_ok hI hx h1 (gOf_mem hG) fun hm r hr=>hs r ?_⟩
    rw [hsh]
    simp only [shCs,hm,List.mem_append]; exact .inl hr
  cases x with
  | un=>cases h
  | pv k c =>
   simp only [Lk.outR] at h
   revert h; split
   ·rename_i cs h1 h2 h3
    intro h
    have h1:=Nat.le_of_ble_eq_true h1
    have h2:=nat_beq h2
    subst h2
    obtain ⟨_,hu⟩:=hv
    obtain ⟨b1,cur,e,b2,b3⟩:=hI.rel.vs k cs h3
    cases h4:S.lk.outCs (hdL rl) cs with
    | none=>rw [h4] at h; cases h
    | some p =>
     obtain ⟨y,k'⟩:=p
     rw [h4] at h; cases h
     obtain ⟨g,hg,i1⟩:=outCs_ok hI b3 h4
     refine ⟨g,hg,fun G hG hs=>⟨k,γ.vb k,cur,e,h1,hu,?_,b2,i1 G hG fun r hr=>hs r ?_⟩⟩
     ·simp only [endO,b1]; rfl
     ·simp only [Lk.shR,h3]; exact hr
   ·intro h; cases h
  | b x=>exact one (RelA.to hv (by simp)) h rfl
  | i k n=>exact one (RelA.to hv (by simp)) h rfl
  | s x=>exact one (RelA.to hv (by simp)) h rfl
  | nl τ=>exact one (RelA.to hv (by simp)) h rfl
  | sw r=>exact one (RelA.to hv (by simp)) h rfl
  | sl r o n=>exact one (RelA.to hv (by simp)) h rfl
  | nw r e c=>exact one (RelA.to hv (by simp)) h rfl
  | ns r e c o n=>exact one (RelA.to hv (by simp)) h rfl
  | pe r e c=>exact one (RelA.to hv (by simp)) h rfl
  | pn r e c o n=>exact one (RelA.to hv (by simp)) h rfl
  | fn f caps=>exact one (RelA.to hv (by simp)) h rfl
 | a l =>
  obtain ⟨us,hu,hl⟩:=hv
  simp only [Lk.outR] at h
  cases h4:S.lk.outCs (hdL rl) l with
  | none=>rw [h4] at h; cases h
  | some p =>
   obtain ⟨y,k'⟩:=p
   rw [h4] at h; cases h
   obtain ⟨g,hg,i1⟩:=outCs_ok hI hl h4
   exact ⟨g,hg,fun G hG hs=>⟨us,hu,i1 G hG fun r hr=>hs r hr⟩⟩
 | t l =>
  obtain ⟨us,hu,hl⟩:=hv
  cases l with
  | nil =>
   cases hl; cases h
   exact ⟨[],rfl,fun G hG hs=>⟨rfl,hu⟩⟩
  | cons p l =>
   simp only [Lk.outR] at h
   cases h4:S.lk.outTs rl (p::l) with
   | none=>rw [h4] at h; cases h
   | some q =>
    obtain ⟨y,k'⟩:=q
    rw [h4] at h; cases h
    obtain ⟨g,hg,i1⟩:=outTs_ok hI hl h4
    exact ⟨g,hg,fun G hG hs=>⟨us,hu,i1 G hG fun r hr=>hs r hr⟩⟩
 | g p q v=>cases h
theorem outV_ok (hI:Inv X e0 γ0 w0 S γ a w) {k:Nat}:∀ {l:List Cv} {us:List Value} {ms:List Nat} {j:Nat} {ys:List Ct} {ks:List Nat},RelL S.lk γ l us->S.lk.outV k j ms l=some (ys,ks) ->
  ∃ g,keys g=ks/\∀ G,(∀ p∈g,lk G p.1=some p.2)->RelVcs X γ0 (endO G γ.O) w (300000+k*64+j) ms ys us ks
 | [],us,ms,j,ys,ks,hl,h=>by cases hl; cases h; exact ⟨[],rfl,fun G _=> .nil⟩
 | x::l,us,ms,j,ys,ks,hl,h=>by
  cases hl with
  | cons hx hl =>
   rename_i v us
   simp only [Lk.outV] at h
   cases h2:S.lk.outV k (j+1) (tl ms) l with
   | none=>rw [h2] at h; cases h
   | some q =>
    obtain ⟨yl,kl⟩:=q
    rw [h2] at h; simp only at h
    obtain ⟨g,hg,ih⟩:=outV_ok hI hl h2
    have fin:∀ {y:Ct} {k1:List Nat} {ys:List Ct} {ks:List Nat},(∀ G,(∀ r∈k1,lk G r=some (hd ms))->RelVc X γ0 (endO G γ.O) w (300000+k*64+j) (hd ms) y v k1)->some (y::yl,k1++kl)=some (ys,ks) ->
      ∃ g,keys g=ks/\∀ G,(∀ p∈g,lk G p.1=some p.2)->RelVcs X γ0 (endO G γ.O) w (300000+k*64+j) ms ys (v::us) ks:=by
     intro y k1 ys ks hr h
     cases h
     exact ⟨gOf k1 (hd ms)++g,by rw [keys_append,keys_gOf,hg],fun G hG=> .cons (hr G (gOf_mem fun p hp=>hG p (List.mem_append_left _ hp))) (ih G fun p hp=>hG p (List.mem_append_right _ hp))⟩
    revert h; split
    ·rename_i hm
     split
     ·intro h; exact fin (k1:=[]) (fun G _=>by rw [hm]; exact ⟨rfl,hx,trivial⟩) h
     ·intro h; exact fin (k1:=[]) (fun G _=>by rw [hm]; exact ⟨rfl,hx,trivial⟩) h
     ·intro h; exact fin (k1:=[]) (fun G _=>by rw [hm]; exact ⟨rfl,hx,trivial⟩) h
     ·intro h; cases h
    ·rename_i hm
     split
     ·rename_i r
      split
      ·rename_i y h1 h3
       intro h
       simp only [Bool.and_eq_true] at h1
       have hrk:=nat_beq h1.1
       have hr4:=Nat.le_of_ble_eq_true h1.2.1
       obtain ⟨row,hr,ho⟩:=bor1_inv h1.2.2
       obtain ⟨_,hv⟩:=hx
       obtain ⟨_,i2,_⟩:=hI.i3 r row (by omega) (by omega) hr ho
       refine fin (k1:=[]) (fun G _=> ?_) h
       rw [hm]; exact ⟨rfl,by rw [hv,i2,hrk]⟩
      ·intro h; cases h
     ·intro h; cases h
    ·rename_i hm0 hm1
     have big:∀ {τ:Ty} {xs:List (El τ)} {k1:List Nat} (G:List (Nat×Nat)),hdK (hd ms)=true->NewR X (endO G γ.O) w (hd ms) τ xs v k1->RelVc X γ0 (endO G γ.O) w (300000+k*64+j) (hd ms) (.l τ xs) v k1:=by
      intro τ xs k1 G h1 h2
      simp only [RelVc]
      revert h1 h2
      generalize hd ms=md at hm0 hm1
      intro h1 h2
      rcases hdK_cases h1 with rfl | rfl | rfl<;>exact ⟨h1,h2⟩
     split
     ·rename_i τ
      cases hd':hdK (hd ms) with
      | false=>intro h; cases h
      | true=>intro h; exact fin (k1:=[]) (fun G _=>big G hd' (.inl ⟨rfl,hx,rfl⟩)) h
     ·rename_i r
      obtain ⟨⟨row,hr⟩,hv⟩:=hx
      rw [hr]; simp only
      cases hd':hdK (hd ms) with
      | false=>intro h; cases h
      | true =>
       cases hle:leK (hd ms) row.ow with
       | false=>intro h; cases h
       | true =>
        intro h
        refine fin (k1:=[r]) (fun G hG=>big G hd' (.inr ⟨r,γ.cv r,rfl,?_⟩)) h
        rw [hv]
        exact handed_ok hI.rel hr (hG r (by simp)) hle
     ·intro h; cases h
theorem outVs_ok (hI:Inv X e0 γ0 w0 S γ a w):∀ {ms:List (List Nat)} {k:Nat} {vo:List (List Ct)} {ks:List Nat},k+ms.length<=1000->S.lk.outVs k ms=some (vo,ks) ->
  ∃ g,keys g=ks/\∀ G,(∀ p∈g,lk G p.1=some p.2)->RelVo X γ0 (endO G γ.O) w k ms vo ks
 | [],k,vo,ks,hk,h=>by cases h; exact ⟨[],rfl,fun G _=> .nil⟩
 | wd::ms,k,vo,ks,hk,h=>by
  simp only [List.length_cons] at hk
  simp only [Lk.outVs] at h
  cases h1:S.lk.v k with
  | none=>simp [h1] at h
  | some cs =>
   cases h2:S.lk.outVs (k+1) ms with
   | none=>simp [h1,h2] at h
   | some q =>
    obtain ⟨yl,kl⟩:=q
    simp only [h1,h2] at h
    cases h3:S.lk.outV k 0 wd cs with
    | none=>rw [h3] at h; cases h
    | some p =>
     obtain ⟨y,k1⟩:=p
     rw [h3] at h; cases h
     obtain ⟨b1,cur,e,b2,b3⟩:=hI.rel.vs k cs h1
     obtain ⟨g1,hg1,i1⟩:=outV_ok hI b3 h3
     obtain ⟨g,hg,ih⟩:=outVs_ok hI (by omega) h2
     have hvb:=hI.i2 k (by omega)
     refine ⟨g1++g,by rw [keys_append,hg1,hg],fun G hG=> .cons (cur:=cur) (e:=e) ?_ ?_ (i1 G fun p hp=>hG p (List.mem_append_left _ hp)) (ih G fun p hp=>hG p (List.mem_append_right _ hp))⟩
     ·simp only [endO]; rw [← hvb,b1]; rfl
     ·rw [← hvb]; exact b2
theorem outIo_ok (hI:Inv X e0 γ0 w0 S γ a w):∀ {acs:List AC} {p:Nat} {ys:List Ct} {ks:List Nat},S.lk.outIo p acs=some (ys,ks) ->
  ∃ g,keys g=ks/\∀ G,(∀ p∈g,lk G p.1=some p.2)->RelIo X γ0 (endO G γ.O) w p acs ys ks
 | [],p,ys,ks,h=>by cases h; exact ⟨[],rfl,fun G _=> .nil⟩
 | x::l,p,ys,ks,h=>by
  have skip:(∀ τ xs,x≠ .io τ xs)->S.lk.outIo (p+1) l=some (ys,ks)->∃ g,keys g=ks/\∀ G,(∀ p∈g,lk G p.1=some p.2)->RelIo X γ0 (endO G γ.O) w p (x::l) ys ks:=by
   intro hx h
   obtain ⟨g,hg,ih⟩:=outIo_ok hI h
   exact ⟨g,hg,fun G hG=> .skip hx (ih G hG)⟩
  cases x with
  | io τ xs =>
   simp only [Lk.outIo] at h
   cases h1:S.lk.r (200000+p*64) with
   | none=>simp [h1] at h
   | some row =>
    cases h2:S.lk.outIo (p+1) l with
    | none=>simp [h1,h2] at h
    | some q =>
     obtain ⟨yl,kl⟩:=q
     simp only [h1,h2] at h
     revert h; split
     ·rename_i h3 h4
      intro h; cases h
      simp only [Bool.and_eq_true] at h3
      have ho:=nat_beq h3.1
      have hp:=Nat.le_of_ble_eq_true h3.2
      have hτ:=tEq_eq h4
      obtain ⟨σ,zs,ow⟩:=row
      simp only at ho hτ; subst ho; subst hτ
      obtain ⟨g,hg,ih⟩:=outIo_ok hI h2
      refine ⟨(200000+p*64,5)::g,by simp [keys,hg],fun G hG=> .io (cs:=γ.cv (200000+p*64)) ?_ (ih G fun q hq=>hG q (List.mem_cons_of_mem _ hq))⟩
      have:=handed_ok hI.rel (G:=G) h1 (d:=5) (hG (200000+p*64,5) List.mem_cons_self) rfl
      rw [hI.i4 _ (by omega) (by omega)] at this
      exact this
     ·intro h; cases h
  | c y=>exact skip (by simp) h
  | a ys=>exact skip (by simp) h
  | p k=>exact skip (by simp) h
  | f g ks=>exact skip (by simp) h
  | al k c=>exact skip (by simp) h
theorem out_ok (hI:Inv X e0 γ0 w0 S γ a w) {g:Sig} {acs:List AC} {vin:List (List Ct)} {f:Func} {cr:CR} {u:Value} (he0:e0=(entry g acs vin).lk) {v:AV} (hv:RelA S.lk γ v u)
  (hres:resV X S f.results.toList=some v) (h:S.out X g acs f=some cr):Post X g acs vin γ0 w0 cr u w:=by
 simp only [St.out,hres] at h
 cases h1:S.lk.outR g.rl v with
 | none=>simp [h1] at h
 | some p1 =>
  obtain ⟨rc,ka⟩:=p1
  cases h2:S.lk.outVs 0 g.vl with
  | none=>simp [h1,h2] at h
  | some p2 =>
   obtain ⟨vo,kb⟩:=p2
   cases h3:S.lk.outIo 0 acs with
   | none=>simp [h1,h2,h3] at h
   | some p3 =>
    obtain ⟨io,kc⟩:=p3
    simp only [h1,h2,h3] at h
    cases hc:nodupN (ka++(kb++kc))&&(disjN (S.lk.shR g.rl v) (ka++(kb++kc))&&Nat.ble g.vl.length 1000) with
    | false=>rw [hc] at h; cases h
    | true =>
     rw [hc] at h; cases h
     simp only [Bool.and_eq_true] at hc
     have hnd:=nodupN_iff.1 hc.1
     have hsh:=disjN_iff.1 hc.2.1
     have hvl:=Nat.le_of_ble_eq_true hc.2.2
     obtain ⟨g1,k1,i1⟩:=outR_ok hI hv h1
     obtain ⟨g2,k2,i2⟩:=outVs_ok hI (k:=0) (by omega) h2
     obtain ⟨g3,k3,i3⟩:=outIo_ok hI h3
     have hk:keys (g1++(g2++g3))=ka++(kb++kc):=by simp only [keys_append,k1,k2,k3]
     have hG:∀ p∈g1++(g2++g3),lk (g1++(g2++g3)) p.1=some p.2:=fun p hp=>lk_of_mem (by rw [hk]; exact hnd) hp
     refine ⟨endO (g1++(g2++g3)) γ.O,ka,kb,kc,⟨hI.fr.os,hI.fr.tape,hI.fr.output,hI.fr.size,fun b hb ho=> ?_,fun b hb=> ?_⟩,hnd,?_,?_,?_⟩
     ·obtain ⟨b1,b2⟩:=hI.fr.blk b hb ho
      refine ⟨?_,b2⟩
      simp only [endO]
      rw [b1]
      rcases ho with ho | ho | ho<;>rw [ho]<;>rfl
     ·simp only [endO]; rw [hI.fr.top b hb]; rfl
     ·rw [← hk,← he0]
      exact i1 _ (fun p hp=>hG p (List.mem_append_left _ hp)) fun r hr=>by rw [hk]; exact hsh r hr
     ·exact i2 _ fun p hp=>hG p (List.mem_append_right _ (List.mem_append_left _ hp))
     ·exact i3 _ fun p hp=>hG p (List.mem_append_right _ (List.mem_append_right _ hp))
end
end Go.Soft
namespace Go.Soft
open Go
variable {X X':Ctx} {m M:Lk} {γ γ':Gh} {w w':World} {ρ:Operand->Value} {S T:St} {δ δ':Dl}
section
theorem Sl.cx (hid:X'.id=X.id) {O:OM} {c:Cls} {τ:Ty} {v:Value} {n:Nat} {cs:List Value} (h:Sl X O w c τ v n cs):Sl X' O w c τ v n cs:=by
 cases c with
 | own t=>exact ⟨by rw [hid]; exact h.1,h.2⟩
 | _=>exact h
theorem RowR.cx (hid:X'.id=X.id) {O:OM} {k:Nat} {row:Row} {v:Value} {cs:List Value} (h:RowR X O w k row v cs):RowR X' O w k row v cs:=by
 refine ⟨h.top.cx hid,fun e c ct he hc=> ?_⟩
 obtain ⟨u,hu,hr⟩:=h.cel e c ct he hc
 refine ⟨u,hu,?_⟩
 cases ct with
 | u=>exact hr
 | l τ ys=>exact ⟨hr.1,hr.2.cx hid⟩
 | _=>exact hr
theorem Rel.cx (hid:X'.id=X.id) (h:Rel X m γ w):Rel X' m γ w:=⟨h.vs,fun k row hk=>(h.rs k row hk).cx hid⟩
theorem Pre.cx (hid:X'.id=X.id) {g:Sig} {acs:List AC} {vin:List (List Ct)} {args:List Value} (h:Pre X g acs vin γ w args):Pre X' g acs vin γ w args:=⟨h.rel.cx hid,h.top,h.args⟩
theorem NewR.cx (hid:X'.id=X.id) {O:OM} {md:Nat} {τ:Ty} {xs:List (El τ)} {v:Value} {ks:List Nat} (h:NewR X O w md τ xs v ks):NewR X' O w md τ xs v ks:=by
 rcases h with h | ⟨key,cs,h1,h2⟩
 ·exact .inl h
 ·exact .inr ⟨key,cs,h1,h2.cx hid⟩
variable {e0:Lk} {γ0:Gh} {K:List Nat} {O:OM}
theorem RelRc.cx (hid:X'.id=X.id) {md:Nat} {y:Rc} {v:Value} {ks:List Nat} (h:RelRc X e0 γ0 K O w md y v ks):RelRc X' e0 γ0 K O w md y v ks:=by
 cases y with
 | c ct =>
  cases ct with
  | l τ xs=>exact ⟨h.1,h.2.cx hid⟩
  | _=>exact h
 | _=>exact h
theorem RelRcs.cx (hid:X'.id=X.id) {ms:List Nat} {y:List Rc} {v:List Value} {ks:List Nat} (h:RelRcs X e0 γ0 K O w ms y v ks):RelRcs X' e0 γ0 K O w ms y v ks:=by
 induction h with
 | nil=>exact .nil
 | cons h1 _ ih=>exact .cons (h1.cx hid) ih
theorem RelRts.cx (hid:X'.id=X.id) {ms:List (List Nat)} {y:List (Bool×List Rc)} {v:List Value} {ks:List Nat} (h:RelRts X e0 γ0 K O w ms y v ks):RelRts X' e0 γ0 K O w ms y v ks:=by
 induction h with
 | nil=>exact .nil
 | cons h1 h2 h3 _ ih=>exact .cons (h1.cx hid) h2 h3 ih
theorem RelRes.cx (hid:X'.id=X.id) {rl:List (List Nat)} {y:RC} {v:Value} {ks:List Nat} (h:RelRes X e0 γ0 K O w rl y v ks):RelRes X' e0 γ0 K O w rl y v ks:=by
 cases y with
 | u=>exact h
 | c x=>exact RelRc.cx hid h
 | a l=>obtain ⟨us,h1,h2⟩:=h; exact ⟨us,h1,h2.cx hid⟩
 | t l=>obtain ⟨us,h1,h2⟩:=h; exact ⟨us,h1,h2.cx hid⟩
 | np l=>obtain ⟨cv,g,cur,e,h1,h2,h3,h4,h5⟩:=h; exact ⟨cv,g,cur,e,h1,h2,h3,h4,h5.cx hid⟩
theorem RelVc.cx (hid:X'.id=X.id) {key md:Nat} {y:Ct} {v:Value} {ks:List Nat} (h:RelVc X γ0 O w key md y v ks):RelVc X' γ0 O w key md y v ks:=by
 revert h
 simp only [RelVc]
 split
 ·exact id
 ·exact id
 ·split
  ·exact fun h=>⟨h.1,h.2.cx hid⟩
  ·exact id
theorem RelVcs.cx (hid:X'.id=X.id) {k:Nat} {ms:List Nat} {y:List Ct} {v:List Value} {ks:List Nat} (h:RelVcs X γ0 O w k ms y v ks):RelVcs X' γ0 O w k ms y v ks:=by
 induction h with
 | nil=>exact .nil
 | cons h1 _ ih=>exact .cons (h1.cx hid) ih
theorem RelVo.cx (hid:X'.id=X.id) {k:Nat} {ms:List (List Nat)} {y:List (List Ct)} {ks:List Nat} (h:RelVo X γ0 O w k ms y ks):RelVo X' γ0 O w k ms y ks:=by
 induction h with
 | nil=>exact .nil
 | cons h1 h2 h3 _ ih=>exact .cons h1 h2 (h3.cx hid) ih
theorem RelIo.cx (hid:X'.id=X.id) {p:Nat} {acs:List AC} {y:List Ct} {ks:List Nat} (h:RelIo X γ0 O w p acs y ks):RelIo X' γ0 O w p acs y ks:=by
 induction h with
 | nil=>exact .nil
 | io h1 _ ih=>exact .io (h1.cx hid) ih
 | skip h1 _ ih=>exact .skip h1 ih
theorem Post.cx (hid:X'.id=X.id) {g:Sig} {acs:List AC} {vin:List (List Ct)} {cr:CR} {v:Value} (h:Post X g acs vin γ0 w cr v w'):Post X' g acs vin γ0 w cr v w':=by
 obtain ⟨O,ka,kb,kc,h1,h2,h3,h4,h5⟩:=h
 exact ⟨O,ka,kb,kc,h1,h2,h3.cx hid,h4.cx hid,h5.cx hid⟩
end
theorem FnOk.at {R:Type} {g:Sig} {f:FuncId} {F:FunR R} (h:FnOk X g f F) (fn:Func):FnOk (X.at fn) g f F :=
 ⟨h.uni,fun acs vin cr hF γ w args hp=>(h.ok acs vin cr hF γ w args (Pre.cx (X:=X.at fn) (X':=X) rfl hp)).mono fun e w' ⟨v,h1,h2⟩=>⟨v,h1,Post.cx (X:=X) (X':=X.at fn) rfl h2⟩⟩
theorem EnvOk.at {R:Type} {E:Env R} (h:EnvOk X E) (fn:Func):EnvOk (X.at fn) E:=⟨fun f g hg=>⟨(h.fn f g hg).1.at fn,(h.fn f g hg).2⟩,h.uni⟩
theorem CtxOk.at (h:CtxOk X) (fn:Func):CtxOk (X.at fn):=⟨h.ty,h.id,h.byte,h.eqs,h.mixed⟩
def resSem (tmps:Array Value):ResultVar->Sem Value
 | .tmp t=>pure (tmps.getD t undef)
 | .cell a t=>do loadVar t (← asAddr (tmps.getD a undef))
theorem resV1_ok {a:Act} (hR:Rel X S.lk γ w) (hT:RelT X S γ a) {r:ResultVar} {v:AV} (h:resV1 X S r=some v):∃ u,(resSem a.tmps r).run X.P w= .ok u w/\RelA S.lk γ v u:=by
 cases r with
 | tmp t=>cases h; exact ⟨_,rfl,get_rel hT t⟩
 | cell t T =>
  simp only [resV1] at h
  have hg:=get_rel hT t
  revert h; split
  ·rename_i c hc
   rw [hc] at hg
   cases hf:S.lk.from c with
   | none=>intro h; cases h
   | some cs =>
    simp only
    cases hb:Nat.ble (szOf X.P T) cs.length&&ldOk X.P T with
    | false=>intro h; cases h
    | true =>
     intro h; cases h
     simp only [Bool.and_eq_true] at hb
     have hne:c≠ .un:=fun e=>by subst e; cases hf
     have hrel:=RelA.to hg hne
     obtain ⟨g,o,us,hp,_,_⟩:=from_ok (Le.refl _) hR hrel hf
     obtain ⟨u,hu,hru⟩:=load_ok (Le.refl _) hR hrel hf hb.1 hb.2
     refine ⟨u,?_,hru⟩
     rw [hp] at hu
     simp only [resSem,hp,asAddr]
     simpa [Instr.loadAt,Instr.sureAddr] using hu
  ·intro h; cases h
theorem resVs_ok {a:Act} (hR:Rel X S.lk γ w) (hT:RelT X S γ a):∀ {l:List ResultVar} {v:List (Bool×List Cv)},resVs X S l=some v->∃ us,(l.mapM (resSem a.tmps)).run X.P w= .ok us w/\RelTs S.lk γ v us/\us.length=l.length
 | [],v,h=>by cases h; exact ⟨[],by simp,.nil,rfl⟩
 | r::l,v,h=>by
  simp only [resVs] at h
  cases h1:resV1 X S r with
  | none=>simp [h1] at h
  | some x =>
   cases h2:resVs X S l with
   | none=>rw [h1,h2] at h; revert h; split<;>simp_all
   | some y =>
    obtain ⟨u,hu,hru⟩:=resV1_ok hR hT h1
    obtain ⟨us,hus,hrs,hl⟩:=resVs_ok hR hT h2
    refine ⟨u::us,?_,?_,by simp [hl]⟩
    ·simp only [List.mapM_cons,Sem.run_bind,hu,Result.andThen_ok,hus,Sem.run_pure]
    ·rw [h1,h2] at h
     cases x with
     | c z =>
      by_cases hz:z= .un
      ·subst hz; simp at h
      ·have hzz:v=(false,[z])::y:=by cases z<;>first | exact absurd rfl hz | (simp only [Option.some.injEq] at h; exact h.symm)
       subst hzz
       exact .cons ⟨[u],.cons (RelA.to hru hz) .nil,fun h=>(by cases h),fun _=>rfl⟩ hrs
     | a z =>
      simp only [Option.some.injEq] at h
      subst h
      obtain ⟨us',h3,h4⟩:=hru
      exact .cons ⟨us',h4,fun _=>h3,fun h=>(by cases h)⟩ hrs
     | t z=>simp at h
     | g p q z=>simp at h
theorem resV_ok {a:Act} (hR:Rel X S.lk γ w) (hT:RelT X S γ a) {fn:Func} {v:AV} (h:resV X S fn.results.toList=some v):∃ u,(results fn a.tmps).run X.P w= .ok u w/\RelA S.lk γ v u:=by
 have hres:∀ us,(fn.results.toList.mapM (resSem a.tmps)).run X.P w= .ok us w->(results fn a.tmps).run X.P w= .ok (if h:us.toArray.size=1 then us.toArray[0] else .tuple us.toArray) w:=by
  intro us hus
  have e:results fn a.tmps=(do
    let vs←fn.results.mapM (resSem a.tmps)
    pure (if h:vs.size=1 then vs[0] else .tuple vs)):=by
   simp only [results]
   congr 1
  rw [e,Array.mapM_eq_mapM_toList]
  simp only [Sem.run_bind,map_eq_pure_bind,bind_assoc,pure_bind,hus,Result.andThen_ok,Sem.run_pure]
 revert h hres
 generalize fn.results.toList=l
 intro h hres
 have many:resVs X S l=some (match v with | .t m=>m | _=>[])->(∃ m,v= .t m)->l.length≠1->∃ u,(results fn a.tmps).run X.P w= .ok u w/\RelA S.lk γ v u:=by
  intro h1 hv hl
  obtain ⟨m,rfl⟩:=hv
  obtain ⟨us,hus,hrs,hlen⟩:=resVs_ok hR hT h1
  refine ⟨_,hres us hus,?_⟩
  rw [dif_neg (by simp; omega)]
  exact ⟨us,rfl,hrs⟩
 have step:(match resVs X S l with | some m=>some (AV.t m) | none=>none)=some v->l.length≠1->∃ u,(results fn a.tmps).run X.P w= .ok u w/\RelA S.lk γ v u:=by
  intro h1 hl
  cases h2:resVs X S l with
  | none=>rw [h2] at h1; cases h1
  | some m=>rw [h2] at h1; cases h1; exact many h2 ⟨m,rfl⟩ hl
 match l,h,hres,step with
 | [r],h,hres,_ =>
  obtain ⟨u,hu,hru⟩:=resV1_ok hR hT h
  exact ⟨u,by simpa using hres [u] (by simp [hu]),hru⟩
 | [],h,_,step=>exact step h (by simp)
 | _::_::_,h,_,step=>exact step h (by simp)
theorem lk_zipT:∀ (l:List AV) (n t:Nat),lk (zipT n l) t=if n<=t then l[t-n]? else none
 | [],n,t=>by simp [zipT,lk]
 | v::l,n,t=>by
  simp only [zipT,lk,lk_zipT l (n+1) t]
  cases h:Nat.beq n t with
  | true=>have:=nat_beq h; subst this; simp
  | false =>
   have hne:n≠t:=fun e=>by subst e; rw [Nat.beq_refl] at h; cases h
   by_cases h1:n+1<=t
   ·rw [if_pos h1,if_pos (by omega),show t-n=(t-(n+1))+1 by omega]; simp
   ·rw [if_neg h1,if_neg (by omega)]
theorem entA_noG {g:Sig} {acs:List AC} {vin:List (List Ct)}:gfree (entry g acs vin):=by
 intro t p q v h
 have h:lk (zipT 0 (entA g.am 0 acs).1) t=some (.g p q v):=h
 rw [lk_zipT,if_pos (Nat.zero_le _),entA_get] at h
 cases hx:acs[t-0]? with
 | none=>rw [hx] at h; cases h
 | some x=>rw [hx] at h; cases x<;>simp [entAV] at h
variable {R:Type} {E:Env R}
theorem fn_ok (r0:R) (hX:CtxOk X) (hE:EnvOk X E) {L:Live} {g:Sig} {f:FuncId} {fn:Func} {body:Code} {lps:Nat->Loop R} {F:FunR R}
  (hf:X.P.funcs[f]? =some fn) (hb:fn.body=some body) (hl:LpsOk (X.at fn) E L body lps)
  (hF:∀ acs vin,F acs vin=(fun _=>none)\/∃ n,F acs vin=fnRun X E L (lps n) g fn acs vin):FnOk X g f F:=by
 have hXf:=hX.at fn
 have hEf:=hE.at fn
 have euni:∀ n c s,Uni (fun k:Ex×St->Option R=>exec (X.at fn) E L (lps n) c s fun e s=>k (e,s)):=fun n c s=>exec_uni hEf.uni (fun c i l=>lps_uni hEf.uni hl n c i l) c s
 let G:List AC->(CR->Option R)->Ex×St->Option R:=fun acs k x=>match x.1 with
  | .exit _=>none
  | _=>match x.2.out (X.at fn) g acs fn with | some r=>k r | none=>none
 have hrun:∀ n acs vin k,fnRun X E L (lps n) g fn acs vin k=exec (X.at fn) E L (lps n) body (entry g acs vin) fun e s=>(match e with
   | .exit _=>none
   | _=>match s.out X g acs fn with | some r=>k r | none=>none):=by
  intro n acs vin k; simp only [fnRun,hb]; rfl
 have hout:∀ (s:St) (acs:List AC),s.out (X.at fn) g acs fn=s.out X g acs fn:=fun s acs=>by
  have h1:∀ r,resV1 (X.at fn) s r=resV1 X s r:=fun r=>by cases r<;>rfl
  have h2:∀ l,resVs (X.at fn) s l=resVs X s l:=by
   intro l
   induction l with
   | nil=>rfl
   | cons r l ih=>simp only [resVs,h1,ih]
  have h3:∀ l,resV (X.at fn) s l=resV X s l:=by
   intro l
   simp only [resV,h1,h2]
  simp only [St.out,h3]
 have hrun2:∀ n acs vin k,fnRun X E L (lps n) g fn acs vin k=(fun k:Ex×St->Option R=>exec (X.at fn) E L (lps n) body (entry g acs vin) fun e s=>k (e,s)) (G acs k):=by
  intro n acs vin k
  rw [hrun]
  show exec (X.at fn) E L (lps n) body (entry g acs vin) _=exec (X.at fn) E L (lps n) body (entry g acs vin) _
  congr 1
  funext e s
  show _=(match e with
   | .exit _=>none
   | _=>match s.out (X.at fn) g acs fn with | some r=>k r | none=>none)
  rw [hout]
 have hGu:∀ acs x,Uni (fun k=>G acs k x):=by
  intro acs x
  obtain ⟨e,s⟩:=x
  have:Uni (fun k:CR->Option R=>match s.out (X.at fn) g acs fn with | some r=>k r | none=>none):=by
   cases s.out (X.at fn) g acs fn with
   | none=>exact Uni.none
   | some r=>exact Uni.one r
  cases e with
  | exit i=>exact Uni.none
  | normal=>exact this
  | ret=>exact this
 refine ⟨fun acs vin=> ?_,fun acs vin cr hK γ w args hp=> ?_⟩
 ·rcases hF acs vin with h | ⟨n,h⟩
  ·rw [h]; exact Uni.none
  ·rw [h]
   have:=(euni n body (entry g acs vin)).bind (F:=fun x k=>G acs k x) (hGu acs)
   obtain ⟨o,ho⟩:=this
   exact ⟨o,fun k=>by rw [hrun2]; exact ho k⟩
 ·rcases hF acs vin with h | ⟨n,h⟩
  ·rw [h] at hK; exact (ev_none r0 hK).elim
  ·rw [h] at hK
   obtain ⟨oc,hoc⟩:=euni n body (entry g acs vin)
   have hK2:∀ k,oc.bind (G acs k)=k cr:=fun k=>by
    rw [← hK k,hrun2]; exact (hoc (G acs k)).symm
   cases oc with
   | none=>exact (ev_none r0 hK2).elim
   | some x =>
    obtain ⟨e,s⟩:=x
    have hne:(e= .normal\/e= .ret)/\s.out (X.at fn) g acs fn=some cr:=by
     have hend:(∀ k:CR->Option R,(match s.out (X.at fn) g acs fn with | some r=>k r | none=>none)=k cr)->s.out (X.at fn) g acs fn=some cr:=by
      intro h
      cases ho:s.out (X.at fn) g acs fn with
      | none=>rw [ho] at h; exact (ev_none r0 h).elim
      | some r=>rw [ho] at h; rw [ev_inj r0 h]
     cases e with
     | exit i=>exact (ev_none r0 hK2).elim
     | normal=>exact ⟨.inl rfl,hend hK2⟩
     | ret=>exact ⟨.inr rfl,hend hK2⟩
    obtain ⟨he,ho⟩:=hne
    have hpX:=Pre.cx (X:=X) (X':=X.at fn) rfl hp
    refine calls_of_wp hf hb ?_
    have hargs:=RelAs.get hpX.args
    have hI:Inv (X.at fn) (entry g acs vin).lk γ w (entry g acs vin) γ { tmps:=args.toArray++Array.replicate (fn.ntmps-args.toArray.size) undef,defers:=[] } w:=by
     refine ⟨hpX.rel,hpX.top,⟨?_,fun t av ht=> ?_⟩,rfl,⟨rfl,rfl,rfl,Nat.le_refl _,fun _ _ _=>⟨rfl,rfl⟩,hpX.top⟩,fun k row _ _ h _=>⟨h,rfl,rfl⟩,fun _ _ _=>rfl,fun _ _=>rfl⟩
     ·show fn.ntmps<=_
      simp; omega
     ·have ht:lk (zipT 0 (entA g.am 0 acs).1) t=some av:=ht
      rw [lk_zipT,if_pos (Nat.zero_le _)] at ht
      obtain ⟨u,hu,hr⟩:=hargs.2 t av (by simpa using ht)
      have hlt:t<args.length:=(List.getElem?_eq_some_iff.1 hu).1
      have:(args.toArray++Array.replicate (fn.ntmps-args.toArray.size) undef).getD t undef=u:=by
       rw [Array.getD_eq_getD_getElem?,Array.getElem?_append_left (by simpa using hlt)]
       simp [hu]
      rw [this]; exact hr
    refine exec_ok r0 hXf hEf hl (lpR r0 hXf hEf hl n) body (entry g acs vin) e s γ _ w _ (fun d hd=>getLoop_of hl.nd hd) entA_noG hI hoc fun hg γ' a' w' hI'=> ?_
    have hfin:a'.defers=[]/\∃ v,(results fn a'.tmps).run X.P w'= .ok v w'/\∃ v',Ending.returned v= .returned v'/\Post X g acs vin γ w cr v' w':=by
     refine ⟨hI'.df,?_⟩
     cases hv:resV (X.at fn) s fn.results.toList with
     | none=>simp [St.out,hv] at ho
     | some v =>
      obtain ⟨u,hu,hru⟩:=resV_ok hI'.rel hI'.tmp hv
      exact ⟨u,hu,u,rfl,Post.cx (X:=X.at fn) (X':=X) rfl (out_ok hI' rfl hru hv ho)⟩
    rcases he with rfl | rfl
    ·exact hfin
    ·exact hfin
end Go.Soft
namespace Go.Soft
open Go
inductive VT | b | i (k:IntKind) | s | l (τ:Ty) | n
def VT.T:VT->Type
 | .b=>Bool | .i _=>Int | .s=>ByteArray | .l τ=>List (El τ) | .n=>Nat
def HL:List VT->Type
 | []=>Unit
 | t::ts=>t.T×HL ts
def castL:(τ σ:Ty)->List (El σ)->Option (List (El τ))
 | .int,.int,x=>some x | .bool,.bool,x=>some x | .byte,.byte,x=>some x | .str,.str,x=>some x | .slot,.slot,x=>some x | .inode,.inode,x=>some x
 | .block,.block,x=>some x | .dep,.dep,x=>some x | .node,.node,x=>some x | .event,.event,x=>some x
 | _,_,_=>none
theorem castL_eq {τ σ:Ty} {x:List (El σ)} {y:List (El τ)} (h:castL τ σ x=some y):Val.l σ x=Val.l τ y/\Ct.l σ x=Ct.l τ y:=by
 cases τ<;>cases σ<;>simp only [castL,Option.some.injEq,reduceCtorEq] at h<;>subst h<;>exact ⟨rfl,rfl⟩
def Val.getB:Val->Option Bool | .b x=>some x | _=>none
def Val.getI (k:IntKind):Val->Option Int | .i k' x=>(match kEq k k' with | true=>some x | false=>none) | _=>none
def Val.getS:Val->Option ByteArray | .s x=>some x | _=>none
def Val.getL (τ:Ty):Val->Option (List (El τ)) | .l σ x=>castL τ σ x | _=>none
def Val.getN:Val->Option Nat | .n x=>some x | _=>none
def VT.dec:(t:VT)->Val->Option t.T
 | .b,v=>v.getB
 | .i k,v=>v.getI k
 | .s,v=>v.getS
 | .l τ,v=>v.getL τ
 | .n,v=>v.getN
def VT.enc:(t:VT)->t.T->Val
 | .b,x=> .b x | .i k,x=> .i k x | .s,x=> .s x | .l τ,x=> .l τ x | .n,x=> .n x
theorem VT.dec_eq {t:VT} {v:Val} {x:t.T} (h:t.dec v=some x):v=t.enc x:=by
 cases t with
 | b =>
  cases v with
  | b y=>cases (h:some y=some x); rfl
  | _=>cases h
 | i k =>
  cases v with
  | i k' y =>
   have h:(match kEq k k' with | true=>some y | false=>none)=some x:=h
   cases hk:kEq k k' with
   | false=>rw [hk] at h; cases h
   | true=>rw [hk] at h; cases h; rw [kEq_eq hk]; rfl
  | _=>cases h
 | s =>
  cases v with
  | s y=>cases (h:some y=some x); rfl
  | _=>cases h
 | l τ =>
  cases v with
  | l σ y=>exact (castL_eq (h:castL τ σ y=some x)).1
  | _=>cases h
 | n =>
  cases v with
  | n y=>cases (h:some y=some x); rfl
  | _=>cases h
def decs:(ts:List VT)->List Val->Option (HL ts)
 | [],[]=>some ()
 | t::ts,v::l=>match t.dec v with
  | some x=>match decs ts l with | some y=>some (x,y) | none=>none
  | none=>none
 | _,_=>none
def encs:(ts:List VT)->HL ts->List Val
 | [],_=>[]
 | t::ts,(x,y)=>t.enc x::encs ts y
theorem decs_eq:∀ {ts:List VT} {l:List Val} {h:HL ts},decs ts l=some h->l=encs ts h
 | [],[],_,_=>rfl
 | [],_::_,_,h=>by cases h
 | _::_,[],_,h=>by cases h
 | t::ts,v::l,(x,y),h=>by
  simp only [decs] at h
  cases hv:t.dec v with
  | none=>rw [hv] at h; cases h
  | some x' =>
   cases hl:decs ts l with
   | none=>rw [hv,hl] at h; cases h
   | some y' =>
    rw [hv,hl] at h
    simp only [Option.some.injEq,Prod.mk.injEq] at h
    obtain ⟨rfl,rfl⟩:=h
    simp only [encs]
    rw [VT.dec_eq hv,decs_eq hl]
def Ct.getB:Ct->Option Bool | .b x=>some x | _=>none
def Ct.getI (k:IntKind):Ct->Option Int | .i k' x=>(match kEq k k' with | true=>some x | false=>none) | _=>none
def Ct.getS:Ct->Option ByteArray | .s x=>some x | _=>none
def Ct.getL (τ:Ty):Ct->Option (List (El τ)) | .l σ x=>castL τ σ x | _=>none
def VT.decC:(t:VT)->Ct->Option t.T
 | .b,v=>v.getB
 | .i k,v=>v.getI k
 | .s,v=>v.getS
 | .l τ,v=>v.getL τ
 | .n,_=>none
def VT.encC:(t:VT)->t.T->Ct
 | .b,x=> .b x | .i k,x=> .i k x | .s,x=> .s x | .l τ,x=> .l τ x | .n,_=> .u
theorem VT.decC_eq {t:VT} {v:Ct} {x:t.T} (h:t.decC v=some x):v=t.encC x:=by
 cases t with
 | b =>
  cases v with
  | b y=>cases (h:some y=some x); rfl
  | _=>cases h
 | i k =>
  cases v with
  | i k' y =>
   have h:(match kEq k k' with | true=>some y | false=>none)=some x:=h
   cases hk:kEq k k' with
   | false=>rw [hk] at h; cases h
   | true=>rw [hk] at h; cases h; rw [kEq_eq hk]; rfl
  | _=>cases h
 | s =>
  cases v with
  | s y=>cases (h:some y=some x); rfl
  | _=>cases h
 | l τ =>
  cases v with
  | l σ y=>exact (castL_eq (h:castL τ σ y=some x)).2
  | _=>cases h
 | n=>cases h
def CT:List (Option VT)->Type
 | []=>Unit
 | some t::ts=>t.T×CT ts
 | none::ts=>CT ts
def Ct.isU:Ct->Bool | .u=>true | _=>false
def decCs:(ts:List (Option VT))->List Ct->Option (CT ts)
 | [],l=>(match l with | []=>some () | _=>none)
 | some t::ts,l=>(match l with
  | []=>none
  | v::l=>match t.decC v with
   | some x=>(match decCs ts l with | some y=>some (x,y) | none=>none)
   | none=>none)
 | none::ts,l=>(match l with
  | []=>none
  | v::l=>match v.isU with
   | true=>decCs ts l
   | false=>none)
def encCs:(ts:List (Option VT))->CT ts->List Ct
 | [],_=>[]
 | some t::ts,(x,y)=>t.encC x::encCs ts y
 | none::ts,y=> .u::encCs ts y
theorem decCs_eq:∀ {ts:List (Option VT)} {l:List Ct} {h:CT ts},decCs ts l=some h->l=encCs ts h
 | [],l,h,e=>by
  cases l with
  | nil=>rfl
  | cons v l=>cases e
 | some t::ts,l,h,e=>by
  cases l with
  | nil=>cases e
  | cons v l =>
   have e:(match t.decC v with
    | some x=>(match decCs ts l with | some y=>some (x,y) | none=>none)
    | none=>none)=some h:=e
   cases hv:t.decC v with
   | none=>rw [hv] at e; cases e
   | some x' =>
    cases hl:decCs ts l with
    | none=>rw [hv,hl] at e; cases e
    | some y' =>
     rw [hv,hl] at e
     cases e
     show v::l=t.encC x'::encCs ts y'
     rw [VT.decC_eq hv,decCs_eq hl]
 | none::ts,l,h,e=>by
  cases l with
  | nil=>cases e
  | cons v l =>
   cases v with
   | u =>
    have e:decCs ts l=some h:=e
    show Ct.u::l= .u::encCs ts h
    rw [decCs_eq e]
   | _=>cases e
inductive ASh | c (t:Option VT) | a (ts:List (Option VT)) | p (k:Nat) | f (g:Nat) (ks:List Nat) | al (k c:Nat) | io (τ:Ty)
def ASh.T:ASh->Type
 | .c t=>CT [t] | .a ts=>CT ts | .io τ=>List (El τ) | _=>Unit
def AC.getC:AC->List Ct | .c y=>[y] | _=>[]
def AC.getA:AC->Option (List Ct) | .a y=>some y | _=>none
def AC.isP (k:Nat):AC->Bool | .p k'=>Nat.beq k k' | _=>false
def AC.isF (k:Nat) (ks:List Nat):AC->Bool | .f k' ks'=>Nat.beq k k'&&eqNs ks ks' | _=>false
def AC.isAl (k j:Nat):AC->Bool | .al k' j'=>Nat.beq k k'&&Nat.beq j j' | _=>false
def AC.getIo (τ:Ty):AC->Option (List (El τ)) | .io σ xs=>castL τ σ xs | _=>none
def unitB:Bool->Option Unit | true=>some () | false=>none
def ASh.dec:(s:ASh)->AC->Option s.T
 | .c t,v=>decCs [t] v.getC
 | .a ts,v=>(match v.getA with | some l=>decCs ts l | none=>none)
 | .p k,v=>unitB (v.isP k)
 | .f g ks,v=>unitB (v.isF g ks)
 | .al k j,v=>unitB (v.isAl k j)
 | .io τ,v=>v.getIo τ
def hdC (l:List Ct):Ct:=match l with | [x]=>x | _=> .u
def ASh.enc:(s:ASh)->s.T->AC
 | .c t,x=> .c (hdC (encCs [t] x)) | .a ts,x=> .a (encCs ts x) | .p k,_=> .p k | .f g ks,_=> .f g ks | .al k j,_=> .al k j | .io τ,x=> .io τ x
theorem unitB_eq {b:Bool} {x:Unit} (h:unitB b=some x):b=true:=by cases b<;>first | rfl | cases h
theorem ASh.dec_eq {s:ASh} {y:AC} {x:s.T} (h:s.dec y=some x):y=s.enc x:=by
 cases s with
 | c t =>
  cases y with
  | c z =>
   have e:=decCs_eq (h:decCs [t] [z]=some x)
   show AC.c z= .c (hdC (encCs [t] x))
   rw [← e]; rfl
  | _=>cases t<;>cases h
 | a ts =>
  cases y with
  | a z =>
   show AC.a z= .a (encCs ts x)
   rw [← decCs_eq (h:decCs ts z=some x)]
  | _=>cases h
 | p k =>
  cases y with
  | p k'=>have:=nat_beq (unitB_eq (h:unitB (Nat.beq k k')=some x)); subst this; rfl
  | _=>cases h
 | f g ks =>
  cases y with
  | f g' ks' =>
   have hk:(Nat.beq g g'&&eqNs ks ks')=true:=unitB_eq (h:unitB (Nat.beq g g'&&eqNs ks ks')=some x)
   simp only [Bool.and_eq_true] at hk
   have h1:=nat_beq hk.1
   have h2:=eqNs_eq hk.2
   subst h1; subst h2; rfl
  | _=>cases h
 | al k j =>
  cases y with
  | al k' j' =>
   have hk:(Nat.beq k k'&&Nat.beq j j')=true:=unitB_eq (h:unitB (Nat.beq k k'&&Nat.beq j j')=some x)
   simp only [Bool.and_eq_true] at hk
   have h1:=nat_beq hk.1
   have h2:=nat_beq hk.2
   subst h1; subst h2; rfl
  | _=>cases h
 | io τ =>
  cases y with
  | io σ xs =>
   have h:castL τ σ xs=some x:=h
   show AC.io σ xs= .io τ x
   have e:=(castL_eq h).2
   injection e with h1 h2
   subst h1
   rw [eq_of_heq h2]
  | _=>cases h
def AsT:List ASh->Type
 | []=>Unit
 | s::l=>s.T×AsT l
def decAs:(ss:List ASh)->List AC->Option (AsT ss)
 | [],[]=>some ()
 | s::ss,v::l=>match s.dec v with
  | some x=>match decAs ss l with | some y=>some (x,y) | none=>none
  | none=>none
 | _,_=>none
def encAs:(ss:List ASh)->AsT ss->List AC
 | [],_=>[]
 | s::ss,(x,y)=>s.enc x::encAs ss y
theorem decAs_eq:∀ {ts:List ASh} {l:List AC} {h:AsT ts},decAs ts l=some h->l=encAs ts h
 | [],[],_,_=>rfl
 | [],_::_,_,h=>by cases h
 | _::_,[],_,h=>by cases h
 | t::ts,v::l,(x,y),h=>by
  simp only [decAs] at h
  cases hv:t.dec v with
  | none=>rw [hv] at h; cases h
  | some x' =>
   cases hl:decAs ts l with
   | none=>rw [hv,hl] at h; cases h
   | some y' =>
    rw [hv,hl] at h
    simp only [Option.some.injEq,Prod.mk.injEq] at h
    obtain ⟨rfl,rfl⟩:=h
    simp only [encAs]
    rw [ASh.dec_eq hv,decAs_eq hl]
def VsT:List (List (Option VT))->Type
 | []=>Unit
 | s::l=>CT s×VsT l
def decVs:(ss:List (List (Option VT)))->List (List Ct)->Option (VsT ss)
 | [],[]=>some ()
 | s::ss,v::l=>match decCs s v with
  | some x=>match decVs ss l with | some y=>some (x,y) | none=>none
  | none=>none
 | _,_=>none
def encVs:(ss:List (List (Option VT)))->VsT ss->List (List Ct)
 | [],_=>[]
 | s::ss,(x,y)=>encCs s x::encVs ss y
theorem decVs_eq:∀ {ts:List (List (Option VT))} {l:List (List Ct)} {h:VsT ts},decVs ts l=some h->l=encVs ts h
 | [],[],_,_=>rfl
 | [],_::_,_,h=>by cases h
 | _::_,[],_,h=>by cases h
 | t::ts,v::l,(x,y),h=>by
  simp only [decVs] at h
  cases hv:decCs t v with
  | none=>rw [hv] at h; cases h
  | some x' =>
   cases hl:decVs ts l with
   | none=>rw [hv,hl] at h; cases h
   | some y' =>
    rw [hv,hl] at h
    simp only [Option.some.injEq,Prod.mk.injEq] at h
    obtain ⟨rfl,rfl⟩:=h
    simp only [encVs]
    rw [decCs_eq hv,decVs_eq hl]
variable {R:Type}
abbrev funOf (as:List ASh) (vs:List (List (Option VT))) (G:AsT as->VsT vs->(CR->Option R)->Option R):FunR R:=fun acs vin k=>match decAs as acs with
 | none=>none
 | some a=>match decVs vs vin with
  | none=>none
  | some v=>G a v k
structure LF (R:Type) where
 id:Nat
 i:Nat
 ts:List VT
 F:Nat->HL ts->(Ex->St->Option R)->Option R
def findLF (id i:Nat):List (LF R)->Option (LF R)
 | []=>none
 | x::l=>match Nat.beq x.id id,Nat.beq x.i i with | true,true=>some x | _,_=>findLF id i l
abbrev LF.run (x:LF R) (m:Nat) (l:List Val) (K:Ex->St->Option R):Option R:=match decs x.ts l with | none=>none | some h=>x.F m h K
abbrev lpsOf (tab:List (LF R)) (m:Nat):Loop R:=fun id i l K=>match findLF id i tab with | none=>none | some x=>x.run m l K
theorem findLF_mem {id i:Nat}:∀ {tab:List (LF R)} {x:LF R},findLF id i tab=some x->x∈tab/\x.id=id/\x.i=i
 | [],_,h=>by cases h
 | y::l,x,h=>by
  simp only [findLF] at h
  revert h; split
  ·rename_i h1 h2
   intro h; cases h
   exact ⟨List.mem_cons_self,nat_beq h1,nat_beq h2⟩
  ·intro h
   obtain ⟨a,b⟩:=findLF_mem h
   exact ⟨List.mem_cons_of_mem _ a,b⟩
variable {X:Ctx} {E:Env R} {L:Live} {body:Code}
structure LFOk (X:Ctx) (E:Env R) (L:Live) (body:Code) (tab:List (LF R)) (x:LF R):Prop where
 z:∀ h K,x.F 0 h K=none
 s:∃ c,getLoop x.id body=some c/\∀ m h K,round X E L (lpsOf tab m) c x.i (encs x.ts h) K=x.F (m+1) h K
theorem lpsOf_ok {tab:List (LF R)} (hnd:nodupN (loopIds body)=true) (h:∀ x∈tab,LFOk X E L body tab x):LpsOk X E L body (lpsOf tab):=by
 refine ⟨fun id i l=> ?_,fun n id i l=> ?_,hnd⟩
 ·funext K
  simp only [lpsOf]
  cases hf:findLF id i tab with
  | none=>rfl
  | some x =>
   simp only [LF.run]
   cases hd:decs x.ts l with
   | none=>rfl
   | some a=>exact (h x (findLF_mem hf).1).z a K
 ·cases hf:findLF id i tab with
  | none=>refine .inl ?_; funext K; simp only [lpsOf,hf]
  | some x =>
   obtain ⟨hx,rfl,rfl⟩:=findLF_mem hf
   cases hd:decs x.ts l with
   | none=>refine .inl ?_; funext K; simp only [lpsOf,hf,LF.run,hd]
   | some a =>
    obtain ⟨c,hc,hs⟩:=(h x hx).s
    refine .inr ⟨c,hc,?_⟩
    funext K
    simp only [lpsOf,hf,LF.run,hd]
    rw [← hs n a K,← decs_eq hd]
abbrev envOf (l:List (Nat×(Sig×FunR R))):Env R:=⟨fun f=>match lk l f with | some p=>some p.1 | none=>none,fun f=>match lk l f with | some p=>p.2 | none=>fun _ _ _=>none⟩
theorem envOf_ok {l:List (Nat×(Sig×FunR R))} (h:∀ p∈l,FnOk X p.2.1 p.1 p.2.2/\Enters X.P p.1):EnvOk X (envOf l):=by
 refine ⟨fun f g hg=> ?_,fun f acs vin=> ?_⟩
 ·have hg:(match lk l f with | some p=>some p.1 | none=>none)=some g:=hg
  cases hl:lk l f with
  | none=>rw [hl] at hg; cases hg
  | some p =>
   rw [hl] at hg; cases hg
   obtain ⟨h1,h2⟩:=h (f,p) (lk_mem hl)
   refine ⟨?_,h2⟩
   have:(envOf l).fn f=p.2:=by show (match lk l f with | some p=>p.2 | none=>fun _ _ _=>none)=_; rw [hl]
   rw [this]; exact h1
 ·show Uni ((match lk l f with | some p=>p.2 | none=>fun _ _ _=>none) acs vin)
  cases hl:lk l f with
  | none=>exact Uni.none
  | some p=>exact (h (f,p) (lk_mem hl)).1.uni acs vin
theorem fun_ok (r0:R) (hX:CtxOk X) {env:List (Nat×(Sig×FunR R))} (hE:∀ p∈env,FnOk X p.2.1 p.1 p.2.2/\Enters X.P p.1) {L:Live} {g:Sig} {f:FuncId} {fn:Func} {body:Code} {tab:List (LF R)}
  {as:List ASh} {vs:List (List (Option VT))} {G:AsT as->VsT vs->(CR->Option R)->Option R} (n:Nat)
  (hf:X.P.funcs[f]? =some fn) (hb:fn.body=some body) (hnd:nodupN (loopIds body)=true) (hl:∀ x∈tab,LFOk (X.at fn) (envOf env) L body tab x)
  (hF:∀ a v k,fnRun X (envOf env) L (lpsOf tab n) g fn (encAs as a) (encVs vs v) k=G a v k):FnOk X g f (funOf as vs G):=by
 refine fn_ok r0 hX (envOf_ok hE) hf hb (lpsOf_ok hnd hl) fun acs vin=> ?_
 cases h1:decAs as acs with
 | none=>refine .inl ?_; funext k; simp only [funOf,h1]
 | some a =>
  cases h2:decVs vs vin with
  | none=>refine .inl ?_; funext k; simp only [funOf,h1,h2]
  | some v =>
   refine .inr ⟨n,?_⟩
   funext k
   simp only [funOf,h1,h2]
   rw [← hF a v k,← decAs_eq h1,← decVs_eq h2]
theorem enters {P:Program} {f:FuncId} {fn:Func} (h:P.funcs[f]? =some fn) (h1:(fn.name == "runtime.NumGoroutine")=false) (h2:fn.body.isNone=false):Enters P f:=⟨fn,h,h1,h2⟩
end Go.Soft
namespace Go.Soft
open Go
def ctB:Ct->Value->Bool
 | .b x,.bool y=>(match x,y with | true,true | false,false=>true | _,_=>false)
 | .i k n,.int k' n'=>kEq k k'&&decide (n=n')
 | .s x,.string y=>decide (x=y)
 | .l _ [],.slice none 0 0=>true
 | _,_=>false
def ctsB:List Ct->List Value->Bool
 | [],[]=>true
 | c::l,v::m=>ctB c v&&ctsB l m
 | _,_=>false
theorem ctB_eq {c:Ct} {v:Value} (h:ctB c v=true):v=ctVal c:=by
 revert h
 unfold ctB
 split
 ·intro h; rename_i x y; cases x<;>cases y<;>first | rfl | cases h
 ·intro h
  simp only [Bool.and_eq_true,decide_eq_true_eq] at h
  rw [kEq_eq h.1,h.2]; rfl
 ·intro h
  simp only [decide_eq_true_eq] at h
  rw [h]; rfl
 ·intro _; rfl
 ·intro h; cases h
theorem ctsB_eq:∀ {l:List Ct} {m:List Value},ctsB l m=true->m=l.map ctVal
 | [],[],_=>rfl
 | [],_::_,h=>by cases h
 | _::_,[],h=>by cases h
 | c::l,v::m,h=>by
  simp only [ctsB,Bool.and_eq_true] at h
  rw [List.map_cons,ctB_eq h.1,ctsB_eq h.2]
def tyB (P:Program) (id:Ty->TypeId) (e:Nat) (τ:Ty):Bool:=match P.info? e with
 | none=>false
 | some i=>Nat.beq i.size (sz τ)&&(match Nat.beq (id τ) e with
  | false=>true
  | true=>match i.zero with | some z=>ctsB (cells τ (dflt τ)) z.cells.toList&&Nat.ble i.bytes 128 | none=>false)
def byteB (P:Program) (e:Nat) (τ:Ty):Bool:=match τ with
 | .byte=>(match P.underlying e with | some (.int .u8)=>true | _=>false)
 | _=>true
def ctxB (X:Ctx):List (Nat×Ty)->Bool
 | []=>true
 | (e,τ)::l=>(tyB X.P X.id e τ&&byteB X.P e τ)&&ctxB X l
theorem ctxB_mem {X:Ctx}:∀ {l:List (Nat×Ty)},ctxB X l=true->∀ e τ,(e,τ)∈l->tyB X.P X.id e τ=true/\byteB X.P e τ=true
 | [],_,e,τ,h=>by cases h
 | (e',τ')::l,h,e,τ,hm=>by
  simp only [ctxB,Bool.and_eq_true] at h
  rcases List.mem_cons.1 hm with hm | hm
  ·cases hm; exact h.1
  ·exact ctxB_mem h.2 e τ hm
theorem ctxOk_of {X:Ctx} (h:ctxB X X.ty=true) (heq:∀ t ks,lk X.eqs t=some ks->StructEq X.P t ks) (hm:X.P.follows .mixedOrders=true):CtxOk X:=by
 refine ⟨fun e τ hl=> ?_,fun e τ hl hid=> ?_,fun e hl=> ?_,heq,hm⟩
 ·have:=(ctxB_mem h e τ (lk_mem hl)).1
  simp only [tyB] at this
  cases hi:X.P.info? e with
  | none=>rw [hi] at this; cases this
  | some i =>
   rw [hi] at this
   simp only [Bool.and_eq_true] at this
   exact ⟨i,rfl,nat_beq this.1⟩
 ·have:=(ctxB_mem h e τ (lk_mem hl)).1
  simp only [tyB] at this
  cases hi:X.P.info? e with
  | none=>rw [hi] at this; cases this
  | some i =>
   rw [hi,hid] at this
   simp only [Bool.and_eq_true,Nat.beq_refl] at this
   cases hz:i.zero with
   | none=>rw [hz] at this; exact absurd this.2 (by simp)
   | some z =>
    rw [hz] at this
    have h2:=this.2
    simp only [Bool.and_eq_true] at h2
    exact ⟨i,z,rfl,hz,ctsB_eq h2.1,Nat.le_of_ble_eq_true h2.2⟩
 ·have:=(ctxB_mem h e .byte (lk_mem hl)).2
  simp only [byteB] at this
  revert this; split
  ·rename_i hu; intro _; exact hu
  ·intro h; cases h
theorem noEqs {X:Ctx} (h:X.eqs=[]):∀ t ks,lk X.eqs t=some ks->StructEq X.P t ks:=by
 intro t ks ht; rw [h] at ht; cases ht
def w64 (n:Int):Int:=IntKind.i64.wrap n
def sizeOk (a b:ByteArray):Bool:=decide (a.size+b.size<=4611686018427387904)
def mkOk (a b:Int):Bool:=(a==b)&&(decide (0<=a)&&Nat.ble a.toNat BIG)
def lenOk {α:Type} (l:List α):Bool:=Nat.ble l.length BIG
def loOk (l:Int) (n:Nat):Bool:=decide (0<=l)&&decide (l<=(n:Int))
def cutOk (l h:Int) (n:Nat):Bool:=decide (0<=l)&&(decide (l<=h)&&decide (h<=(n:Int)))
def S (l:List UInt8):ByteArray:=⟨⟨l⟩⟩
def eS:ByteArray:= .empty
def mkS (l:List UInt8):ByteArray:=⟨⟨l⟩⟩
def dSlot:Slot:=dflt .slot
def dInode:Inode:=dflt .inode
def dBlock:Block:=dflt .block
def dDep:Dep:=dflt .dep
def dNode:Node:=dflt .node
end Go.Soft
namespace Go.Soft
open Go
theorem funOf_none {R:Type} (r0:R) {X:Ctx} {g:Sig} {f:FuncId} {as:List ASh} {vs:List (List (Option VT))} {G:AsT as->VsT vs->(CR->Option R)->Option R} (h:∀ a v k,G a v k=none):FnOk X g f (funOf as vs G):=by
 have hn:∀ acs vin,funOf as vs G acs vin=fun _=>none:=by
  intro acs vin
  funext k
  simp only [funOf]
  cases decAs as acs with
  | none=>rfl
  | some a =>
   cases decVs vs vin with
   | none=>rfl
   | some v=>exact h a v k
 exact ⟨fun acs vin=>by rw [hn]; exact Uni.none,fun acs vin cr hK=>by rw [hn] at hK; exact (ev_none r0 hK).elim⟩
end Go.Soft
namespace Go.Soft
open Go
variable {P:Program} {M:Lk} {γ:Gh} {w:World}
end Go.Soft
namespace Go.Soft
open Go
variable {R:Type}
def Cu:List VT->Type->Type
 | [],Y=>Y
 | t::ts,Y=>t.T->Cu ts Y
abbrev apH {Y:Type}:(ts:List VT)->Cu ts Y->HL ts->Y
 | [],f,_=>f
 | _::ts,f,h=>apH ts (f h.1) h.2
def CuA:List ASh->Type->Type
 | [],Y=>Y
 | s::l,Y=>s.T->CuA l Y
abbrev apA {Y:Type}:(ss:List ASh)->CuA ss Y->AsT ss->Y
 | [],f,_=>f
 | _::l,f,h=>apA l (f h.1) h.2
def CuV:List (List (Option VT))->Type->Type
 | [],Y=>Y
 | s::l,Y=>CT s->CuV l Y
abbrev apV {Y:Type}:(ss:List (List (Option VT)))->CuV ss Y->VsT ss->Y
 | [],f,_=>f
 | _::l,f,h=>apV l (f h.1) h.2
def FaH:(ts:List VT)->(HL ts->Prop)->Prop
 | [],p=>p ()
 | _::ts,p=>∀ x,FaH ts fun y=>p (x,y)
theorem FaH.all:∀ {ts:List VT} {p:HL ts->Prop},FaH ts p->∀ h,p h
 | [],_,h,_=>h
 | _::ts,p,h,(x,y)=>FaH.all (ts:=ts) (p:=fun y=>p (x,y)) (h x) y
def FaC:(ts:List (Option VT))->(CT ts->Prop)->Prop
 | [],p=>p ()
 | some t::ts,p=>∀ x:t.T,FaC ts fun y=>p (x,y)
 | none::ts,p=>FaC ts p
theorem FaC.all:∀ {ts:List (Option VT)} {p:CT ts->Prop},FaC ts p->∀ h,p h
 | [],_,h,_=>h
 | some _::ts,p,h,(x,y)=>FaC.all (ts:=ts) (p:=fun y=>p (x,y)) (h x) y
 | none::ts,p,h,y=>FaC.all (ts:=ts) (p:=p) h y
def FaS:(s:ASh)->(s.T->Prop)->Prop
 | .c t,p=>FaC [t] p
 | .a ts,p=>FaC ts p
 | .io _,p=>∀ x,p x
 | .p _,p=>p ()
 | .f _ _,p=>p ()
 | .al _ _,p=>p ()
theorem FaS.all {s:ASh} {p:s.T->Prop} (h:FaS s p):∀ x,p x:=by
 cases s with
 | c t=>exact FaC.all (ts:=[t]) h
 | a ts=>exact FaC.all (ts:=ts) h
 | io τ=>exact h
 | p k=>exact fun _=>h
 | f g l=>exact fun _=>h
 | al k j=>exact fun _=>h
def FaA:(ss:List ASh)->(AsT ss->Prop)->Prop
 | [],p=>p ()
 | s::l,p=>FaS s fun x=>FaA l fun y=>p (x,y)
theorem FaA.all:∀ {ss:List ASh} {p:AsT ss->Prop},FaA ss p->∀ h,p h
 | [],_,h,_=>h
 | s::l,p,h,(x,y)=>FaA.all (ss:=l) (p:=fun y=>p (x,y)) (FaS.all (s:=s) h x) y
def FaV:(ss:List (List (Option VT)))->(VsT ss->Prop)->Prop
 | [],p=>p ()
 | s::l,p=>FaC s fun x=>FaV l fun y=>p (x,y)
theorem FaV.all:∀ {ss:List (List (Option VT))} {p:VsT ss->Prop},FaV ss p->∀ h,p h
 | [],_,h,_=>h
 | s::l,p,h,(x,y)=>FaV.all (ss:=l) (p:=fun y=>p (x,y)) (FaC.all (ts:=s) h x) y
abbrev lf (id i:Nat) (ts:List VT) (F:Nat->(Ex->St->Option R)->Cu ts (Option R)):LF R:=⟨id,i,ts,fun m h K=>apH ts (F m K) h⟩
structure FD (R:Type) where
 f:FuncId
 g:Sig
 as:List ASh
 vs:List (List (Option VT))
 G:AsT as->VsT vs->(CR->Option R)->Option R
abbrev fd (f:FuncId) (g:Sig) (as:List ASh) (vs:List (List (Option VT))) (F:(CR->Option R)->CuA as (CuV vs (Option R))):FD R:=⟨f,g,as,vs,fun a v k=>apV vs (apA as (F k) a) v⟩
abbrev FD.e (d:FD R):Nat×(Sig×FunR R):=(d.f,(d.g,funOf d.as d.vs d.G))
structure FD.Ok (X:Ctx) (d:FD R):Prop where
 ok:FnOk X d.g d.f (funOf d.as d.vs d.G)
 en:Enters X.P d.f
inductive Es (X:Ctx):List (Nat×(Sig×FunR R))->Prop
 | n:Es X []
 | c {d:FD R} {l} (h:d.Ok X) (t:Es X l):Es X (d.e::l)
theorem Es.all {X:Ctx} {l:List (Nat×(Sig×FunR R))} (h:Es X l):∀ p∈l,FnOk X p.2.1 p.1 p.2.2/\Enters X.P p.1:=by
 induction h with
 | n=>intro p hp; cases hp
 | c h t ih =>
  intro p hp
  rcases List.mem_cons.1 hp with rfl | hp
  ·exact ⟨h.ok,h.en⟩
  ·exact ih p hp
def bodyOf (fn:Func):Code:=fn.body.getD .skip
def fnB (fn:Func):Bool:= !(fn.name == "runtime.NumGoroutine")&&(!fn.body.isNone&&nodupN (loopIds (bodyOf fn)))
inductive Ts (X:Ctx) (E:Env R) (L:Live) (body:Code) (T:List (LF R)):List (LF R)->Prop
 | n:Ts X E L body T []
 | c' {x:LF R} {l} (h:LFOk X E L body T x) (t:Ts X E L body T l):Ts X E L body T (x::l)
theorem Ts.c {X:Ctx} {E:Env R} {L:Live} {body:Code} {T:List (LF R)} {x:LF R} {l:List (LF R)} (t:Ts X E L body T l) (hz:FaH x.ts fun h=>∀ K,x.F 0 h K=none:=by (repeat intro _); kernel_rfl)
  (hs:(getLoop x.id body).isSome=true:=by kernel_rfl) (hr:∀ m,FaH x.ts fun h=>∀ K,round X E L (lpsOf T m) ((getLoop x.id body).getD .skip) x.i (encs x.ts h) K=x.F (m+1) h K:=by (repeat intro _); kernel_rfl):Ts X E L body T (x::l):=by
 refine .c' ⟨hz.all,?_⟩ t
 cases hc:getLoop x.id body with
 | none=>rw [hc] at hs; cases hs
 | some c=>rw [hc] at hr; exact ⟨c,rfl,fun m h K=>(hr m).all h K⟩
theorem Ts.all {X:Ctx} {E:Env R} {L:Live} {body:Code} {T l:List (LF R)} (h:Ts X E L body T l):∀ x∈l,LFOk X E L body T x:=by
 induction h with
 | n=>intro p hp; cases hp
 | c' h t ih =>
  intro p hp
  rcases List.mem_cons.1 hp with rfl | hp
  ·exact h
  ·exact ih p hp
theorem FD.Ok.of (r0:R) {X:Ctx} (hX:CtxOk X) {d:FD R} {env:List (Nat×(Sig×FunR R))} (L:Live) (tab:List (LF R)) (n:Nat) {fn:Func} (hf:X.P.funcs[d.f]? =some fn) (hE:Es X env)
  (hl:Ts (X.at fn) (envOf env) L (bodyOf fn) tab tab) (hc:fnB fn=true:=by kernel_rfl)
  (hF:FaA d.as fun a=>FaV d.vs fun v=>∀ k,fnRun X (envOf env) L (lpsOf tab n) d.g fn (encAs d.as a) (encVs d.vs v) k=d.G a v k:=by (repeat intro _); kernel_rfl):d.Ok X:=by
 simp only [fnB,Bool.and_eq_true,Bool.not_eq_true'] at hc
 obtain ⟨h1,h2,h3⟩:=hc
 refine ⟨fun_ok r0 hX hE.all (L:=L) (tab:=tab) (body:=bodyOf fn) n hf ?_ h3 hl.all (fun a v k=>(hF.all a).all v k),enters hf h1 h2⟩
 cases hb:fn.body with
 | none=>rw [hb] at h2; cases h2
 | some b=>simp [bodyOf,hb]
theorem FD.Ok.zero (r0:R) {X:Ctx} {d:FD R} (hz:∀ a v k,d.G a v k=none:=by intros; kernel_rfl) {fn:Func} (hf:X.P.funcs[d.f]? =some fn) (hc:fnB fn=true:=by kernel_rfl):d.Ok X:=by
 simp only [fnB,Bool.and_eq_true,Bool.not_eq_true'] at hc
 exact ⟨funOf_none r0 hz,enters hf hc.1 hc.2.1⟩
end Go.Soft
namespace Go.Soft
open Go
structure Bits where
 Blocks:List Bool
 Inos:List Bool
structure Disk where
 Bits:Bits
 Inodes:List Inode
 Blocks:List Block
structure Mem where
 Disk:Disk
 Dirty:List Bool
 Deps:List Dep
 Next:Int
structure Device where
 Units:List ByteArray
structure Fs where
 Mem:Mem
 Device:Device
structure Cur where
 b:List UInt8
 i:Int
 h:Int
structure World where
 Fs:Fs
 Model:List Node
 Codes:List Int
 Kept:List Node
def oI:Option VT:=some (.i .i64)
def oB:Option VT:=some .b
def oS:Option VT:=some .s
def oL (τ:Ty):Option VT:=some (.l τ)
def cI (n:Int):Ct:= .i .i64 n
def aI:ASh:= .c oI
def aB:ASh:= .c oB
def aS:ASh:= .c oS
def aL (τ:Ty):ASh:= .c (oL τ)
abbrev shSlot:List (Option VT):=[oS,oI]
def unSlot (a:CT shSlot):Slot:=⟨a.1,a.2.1⟩
abbrev shInode:List (Option VT):=[oI,oI,oL .int]
def unInode (a:CT shInode):Inode:=⟨a.1,a.2.1,a.2.2.1⟩
def ctInode (r:Inode):List Ct:=[cI r.Kind,cI r.Links,.l .int r.Ptrs]
abbrev shBlock:List (Option VT):=[oB,oL .slot,oS]
def unBlock (a:CT shBlock):Block:=⟨a.1,a.2.1,a.2.2.1⟩
def ctBlock (r:Block):List Ct:=[.b r.Dir,.l .slot r.Slots,.s r.Text]
abbrev shDep:List (Option VT):=[oI,oI,oI,oI,oI,oI,oS,oB,oB,oI,oL .int]
def unDep (a:CT shDep):Dep:=⟨a.1,a.2.1,a.2.2.1,a.2.2.2.1,a.2.2.2.2.1,a.2.2.2.2.2.1,a.2.2.2.2.2.2.1,a.2.2.2.2.2.2.2.1,a.2.2.2.2.2.2.2.2.1,a.2.2.2.2.2.2.2.2.2.1,a.2.2.2.2.2.2.2.2.2.2.1⟩
abbrev shEvent:List (Option VT):=[oI,oS,oS,oI,oS]
def unEvent (a:CT shEvent):Event:=⟨a.1,a.2.1,a.2.2.1,a.2.2.2.1,a.2.2.2.2.1⟩
def ctEvent (r:Event):List Ct:=[cI r.Kind,.s r.Path,.s r.To,cI r.At,.s r.Text]
abbrev shBits:List (Option VT):=[oL .bool,oL .bool]
def unBits (a:CT shBits):Bits:=⟨a.1,a.2.1⟩
def ctBits (r:Bits):List Ct:=[.l .bool r.Blocks,.l .bool r.Inos]
abbrev shDisk:List (Option VT):=[oL .bool,oL .bool,oL .inode,oL .block]
def unDisk (a:CT shDisk):Disk:=⟨⟨a.1,a.2.1⟩,a.2.2.1,a.2.2.2.1⟩
def ctDisk (r:Disk):List Ct:=[.l .bool r.Bits.Blocks,.l .bool r.Bits.Inos,.l .inode r.Inodes,.l .block r.Blocks]
abbrev shDevice:List (Option VT):=[oL .str]
def unDevice (a:CT shDevice):Device:=⟨a.1⟩
def ctDevice (r:Device):List Ct:=[.l .str r.Units]
abbrev shMem:List (Option VT):=[oL .bool,oL .bool,oL .inode,oL .block,oL .bool,oL .dep,oI]
def unMem (a:CT shMem):Mem:=⟨⟨⟨a.1,a.2.1⟩,a.2.2.1,a.2.2.2.1⟩,a.2.2.2.2.1,a.2.2.2.2.2.1,a.2.2.2.2.2.2.1⟩
def ctMem (r:Mem):List Ct:=[.l .bool r.Disk.Bits.Blocks,.l .bool r.Disk.Bits.Inos,.l .inode r.Disk.Inodes,.l .block r.Disk.Blocks,.l .bool r.Dirty,.l .dep r.Deps,cI r.Next]
abbrev shFs:List (Option VT):=[oL .bool,oL .bool,oL .inode,oL .block,oL .bool,oL .dep,oI,oL .str]
def unFs (a:CT shFs):Fs:=⟨⟨⟨⟨a.1,a.2.1⟩,a.2.2.1,a.2.2.2.1⟩,a.2.2.2.2.1,a.2.2.2.2.2.1,a.2.2.2.2.2.2.1⟩,⟨a.2.2.2.2.2.2.2.1⟩⟩
def ctFs (r:Fs):List Ct:=[.l .bool r.Mem.Disk.Bits.Blocks,.l .bool r.Mem.Disk.Bits.Inos,.l .inode r.Mem.Disk.Inodes,.l .block r.Mem.Disk.Blocks,.l .bool r.Mem.Dirty,.l .dep r.Mem.Deps,cI r.Mem.Next,.l .str r.Device.Units]
abbrev shCur:List (Option VT):=[oL .byte,oI,oI]
def unCur (a:CT shCur):Cur:=⟨a.1,a.2.1,a.2.2.1⟩
def ctCur (r:Cur):List Ct:=[.l .byte r.b,cI r.i,cI r.h]
abbrev shWorld:List (Option VT):=[oL .bool,oL .bool,oL .inode,oL .block,oL .bool,oL .dep,oI,oL .str,oL .node,oL .int,oL .node]
def unWorld (a:CT shWorld):World:=⟨⟨⟨⟨⟨a.1,a.2.1⟩,a.2.2.1,a.2.2.2.1⟩,a.2.2.2.2.1,a.2.2.2.2.2.1,a.2.2.2.2.2.2.1⟩,⟨a.2.2.2.2.2.2.2.1⟩⟩,a.2.2.2.2.2.2.2.2.1,a.2.2.2.2.2.2.2.2.2.1,a.2.2.2.2.2.2.2.2.2.2.1⟩
def ctWorld (r:World):List Ct:=[.l .bool r.Fs.Mem.Disk.Bits.Blocks,.l .bool r.Fs.Mem.Disk.Bits.Inos,.l .inode r.Fs.Mem.Disk.Inodes,.l .block r.Fs.Mem.Disk.Blocks,.l .bool r.Fs.Mem.Dirty,.l .dep r.Fs.Mem.Deps,cI r.Fs.Mem.Next,.l .str r.Fs.Device.Units,.l .node r.Model,.l .int r.Codes,.l .node r.Kept]
def rC:List Ct->List Rc
 | []=>[]
 | x::l=> .c x::rC l
def rI (n:Int):Rc:= .c (cI n)
def rB (b:Bool):Rc:= .c (.b b)
def byteOk (n:Int):Bool:=decide (0<=n)&&decide (n<256)
def andK (k:IntKind) (a b:Int):Int:=k.wrap ((BitVec.ofInt k.bits a &&& BitVec.ofInt k.bits b).toNat)
def xorK (k:IntKind) (a b:Int):Int:=k.wrap ((BitVec.ofInt k.bits a ^^^ BitVec.ofInt k.bits b).toNat)
def shrK (k:IntKind) (a b:Int):Int:=a.fdiv (2 ^ (min b.toNat k.bits))
def cW (r:Nat):Cv:= .sw (500000+r)
def cN (n:Int):Cv:= .i .i64 n
def rR (r:Nat) (τ:Ty) (xs:List (El τ)) (ow:Nat):Nat×Row:=(500000+r,⟨τ,xs,ow⟩)
def hW (r:Nat):Sh:= .sw (500000+r)
def hI:Sh:= .i .i64
def hR (r:Nat) (τ:Ty) (ow:Nat):Nat×(Ty×Nat):=(500000+r,(τ,ow))
end Go.Soft
