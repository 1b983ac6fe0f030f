import Derived.Test.YthkhihfodaobkaaGreatDA
import Derived.Laws.IdiomCopy
set_option linter.constructorNameAsVariable false
set_option linter.unusedSimpArgs false
set_option linter.unusedVariables false
namespace Go.Soft
open Go
variable {X:Ctx} {m M:Lk} {γ γ':Gh} {w w':World} {ρ:Operand->Value} {S:St} {δ:Dl}
def Sf (m:Lk) (key:Nat) (row:Row) (mv:List (Nat×(Nat×Nat))) (sh:List (Nat×Nat)):Dl:={ Dl.z with kr:=key::keys mv,rs:=gone mv++(m.share sh++[(key,some row)]) }
theorem A5 {key:Nat} {row:Row} {mv:List (Nat×(Nat×Nat))} {sh:List (Nat×Nat)} (la:(key::(keys mv++keys sh)).Nodup) (hp:∀ r k,(r,k)∈sh->∃ row,m.r r=some row) (k:Nat) :
  fk (Sf m key row mv sh).rs k=if key=k then some (some row) else match lk sh k with
   | some n=>(m.r k).map (fun row=>some { row with ow:=n })
   | none=>if k∈keys mv then some none else none :=
 x6 (m:=m) (r:=key) (row':=row) (a:=⟨[],mv,sh,5⟩) la hp k
theorem Rk (hR:Rel X S.lk γ w) (cm:∀ g,w.heap.size<=g->γ.O g=none) (hm:Le m S.lk) {a:Ro} {row:Row} {v:Value} {cs:List Value} {nb:Option Nat} (la:a.apart)
  (FB:∀ r k,(r,k)∈a.sh->∃ row,m.r r=some row/\((k=3/\nF 4 row.ow=true)\/(k=4/\row.ow=5))) (hn:∀ g,some g=nb->w.heap.size<=g/\g<w'.heap.size)
  (Yt:w'.os=w.os) (Co:w'.tape=w.tape) (vK:w'.output=w.output) (mi:w.heap.size<=w'.heap.size) (hb:∀ g,g<w.heap.size->w'.heap[g]? =w.heap[g]?)
  (bo:cP X (a.O γ.O nb) w' a.key row v cs) (SG:ej row.ow=true) (uB:a.key<100000) :
  let γ':Gh:={ γ with O:=a.O γ.O nb,rv:=dU γ.rv a.key v,cv:=dU γ.cv a.key cs }
  Step X S γ w (Sf m a.key row a.mv a.sh) γ' w'/\bq (S.app (Sf m a.key row a.mv a.sh)).lk γ' (.sw a.key) v:=by
 intro γ'
 have Jt:∀ r k,(r,k)∈a.sh->∃ row,m.r r=some row:=fun r k h=>let ⟨row,h1,_⟩:=FB r k h; ⟨row,h1⟩
 have tz:Ku a.R γ w γ' w':=a.W2 cm Yt Co vK mi hn (fun g hg _=>hb g hg) (fun r hr=>by simp [dU,hr])
 have Nn:∀ k,k∈keys a.mv->lk a.sh k=none:=by
  intro k hk
  rw [cG]; intro uA
  have:=la; simp only [Ro.apart,List.nodup_cons,List.nodup_append] at this
  exact this.2.2.2 k hk k uA rfl
 have rE:(S.app (Sf m a.key row a.mv a.sh)).lk.r a.key=some row:=by rw [kZ,A5 la Jt]; simp
 have Fl:∀ k rk,cg k (Sf m a.key row a.mv a.sh).kr=false->S.lk.r k=some rk->k≠a.key /\
   ∃ rk',(S.app (Sf m a.key row a.mv a.sh)).lk.r k=some rk'/\rk'.τ=rk.τ/\rk'.xs.length=rk.xs.length/\∀ e,rk'.cs e=rk.cs e:=by
  intro k rk hk Fl
  have hk:¬ k∈a.key::keys a.mv:=fun h=>by rw [← fg] at h; have hk:cg k (a.key::keys a.mv)=false:=hk; rw [h] at hk; cases hk
  simp only [zI,not_or] at hk
  refine ⟨hk.1,?_⟩
  rw [kZ,A5 la Jt,if_neg (Ne.symm hk.1)]
  cases hl:lk a.sh k with
  | none=>simp only [hk.2,if_false]; exact ⟨rk,Fl,rfl,rfl,fun _=>rfl⟩
  | some n =>
   obtain ⟨row2,h2⟩:=Jt k n (cO hl)
   have h3:=hm.r k row2 h2
   rw [Fl] at h3; cases h3
   simp only [h2,Option.map_some]
   exact ⟨_,rfl,rfl,rfl,fun _=>rfl⟩
 refine ⟨lX hR rfl tz ?_ ?_ ?_ (fun k rk h h1=>by
  rw [A5 la Jt] at h
  by_cases k8:a.key=k
  ·rw [if_pos k8] at h; cases h; exact absurd h1 (tV SG)
  ·rw [if_neg k8] at h
   cases hl:lk a.sh k with
   | none=>rw [hl] at h; simp only at h; split at h<;>cases h
   | some n =>
    rw [hl] at h; simp only at h
    obtain ⟨row2,h2,h3⟩:=FB k n (cO hl)
    rw [h2] at h; simp only [Option.map_some,zA] at h; subst h
    exfalso; rcases h3 with ⟨h3,_⟩ | ⟨h3,_⟩<;>rw [h3] at h1<;>cases h1) (fun k h1 _=>by simp [γ',dU,show k≠a.key by omega]),⟨row,rE⟩,by simp [γ',dU]⟩
 ·refine mq hR rfl (fun k rk hk k8=> ?_) (fun k rk rk' hk k8 _ h=> ?_) (fun k k8 _ _=>⟨fun rk rk' hk h=> ?_⟩) (fun k c hk _=>⟨?_,rfl⟩)
  ·obtain ⟨cR,rk',h1,_⟩:=Fl k rk k8 hk
   exact ⟨⟨rk',h1⟩,by simp [γ',dU,cR]⟩
  ·obtain ⟨cR,rk2,h1,h2,h3,_⟩:=Fl k rk k8 hk
   rw [h] at h1; cases h1
   exact ⟨h2,by omega⟩
  ·obtain ⟨cR,rk2,h1,h2,h3,h4⟩:=Fl k rk k8 hk
   rw [h] at h1; cases h1
   intro e c τ ys _ hc
   exact ⟨⟨ys,by rw [h4]; exact hc,Nat.le_refl _⟩,by simp [γ',dU,cR]⟩
  ·rw [oy]; exact ⟨_,by simp [Sf,Dl.z,fk,hk]; rfl⟩
 ·intro k rk h
  rw [A5 la Jt] at h
  by_cases k8:a.key=k
  ·subst k8
   rw [if_pos rfl] at h; cases h
   simpa [γ',dU] using bo
  ·rw [if_neg k8] at h
   cases hl:lk a.sh k with
   | none =>
    rw [hl] at h; simp only at h
    split at h<;>cases h
   | some n =>
    rw [hl] at h; simp only at h
    obtain ⟨row2,h2,h3⟩:=FB k n (cO hl)
    rw [h2] at h; simp only [Option.map_some,zA] at h; subst h
    have:=a.shared (w:=w) (w':=w') (γ:=γ) la (nb:=nb) (fun g h=>(hn g h).1) cm (fun g hg _=>hb g hg) (hR.rs k row2 (hm.r k row2 h2)) (cO hl) h3
    simpa [γ',dU,Ne.symm k8] using this
 ·intro k rk h hk Vq
  rw [A5 la Jt] at h
  by_cases k8:a.key=k
  ·rw [if_pos k8] at h; cases h
  ·rw [if_neg k8] at h
   rcases Vq with h1 | h1 | h1
   ·exact k8 h1.symm
   ·rw [Nn k h1] at h; simp [h1] at h
   ·cases hl:lk a.sh k with
    | none=>exact absurd h1 (cG.1 hl)
    | some n =>
     obtain ⟨row2,h2⟩:=Jt k n (cO hl)
     rw [hl] at h; simp [h2] at h
theorem Gg (hR:Rel X S.lk γ w) {f:Operand->AV} (hf:∀ o,bk S.lk γ (f o) (ρ o)) {z:Nat}:∀ (parts:List (Nat×Operand)) (n:Nat) (pss:List (List Cv)),partsOf f z n parts=some pss ->
  GY S.lk γ pss (parts.map fun p=>(ρ p.2).cells.toList)/\∀ (j:Nat) (p:Nat×Operand),parts[j]? =some p->p.1=n+j/\(ρ p.2).cells.size=z
 | [],n,pss,h=>by simp only [partsOf,zA] at h; subst h; exact ⟨.nil,by simp⟩
 | (i,o)::parts,n,pss,h=>by
  simp only [partsOf] at h
  revert h; split
  ·rename_i cs r hi hc hr
   split
   ·rename_i hz
    intro h; cases h
    obtain ⟨h1,h2⟩:=Gg hR hf parts (n+1) r hr
    have oT:=qi hR (hf o) hc
    have z5:=aG hi
    have hlen:=aG hz
    have mi:(ρ o).cells.size=z:=by have:=oT.length; simp at this; omega
    refine ⟨.cons oT h1,fun j p hj=> ?_⟩
    cases j with
    | zero=>simp at hj; subst hj; exact ⟨by simpa using z5,mi⟩
    | succ j=>obtain ⟨h3,h4⟩:=h2 j p (by simpa using hj); exact ⟨by omega,h4⟩
   ·intro h; cases h
  ·intro h; cases h
theorem Gf (hX:iy X) (hR:Rel X S.lk γ w) (cm:∀ g,w.heap.size<=g->γ.O g=none) (hm:Le m S.lk) {t:TypeId} {τ:Ty} (ht:X.lI t=some τ) {n key:Nat} {parts:Array (Nat×Operand)} {f:Operand->AV}
  (hf:∀ o,bk S.lk γ (f o) (ρ o)) (hn:parts.size=n) (hsm:n*sz τ<=2 ^ 24) {pss:List (List Cv)} (hp:partsOf f (sz τ) 0 parts.toList=some pss) {b:Xv τ} (hb:m.kf τ 0 pss=some b)
  (la:(key::(keys b.mv++keys b.sh)).Nodup) (xt:τ.isByte=true->b.ok=true) (uB:key<100000) :
  ∃ v w' γ',(Instr.buildSlice t n (parts.map fun (i,x)=>(i,ρ x))).run X.P w= .ok v w'/\Step X S γ w (Sf m key ⟨τ,b.ys,b.lv⟩ b.mv b.sh) γ' w' /\
   bq (S.app (Sf m key ⟨τ,b.ys,b.lv⟩ b.mv b.sh)).lk γ' (.sw key) v:=by
 obtain ⟨hu,zY⟩:=nR ht
 obtain ⟨i,z,hi,hz,hs,_,_,_⟩:=s8 hX ht
 obtain ⟨oT,nf⟩:=Gg hR hf parts.toList 0 pss hp
 let ps:Array (Nat×Value):=parts.map fun (i,x)=>(i,ρ x)
 have hps:ps.toList=parts.toList.map fun p=>(p.1,ρ p.2):=by simp [ps]
 have ng:=Sm (w:=w) (P:=X.P) (parts:=ps) hu hi hz hs (oz τ) hsm (by simp [ps,hn]) (fun j p hj=>by
  rw [hps,List.getElem?_map] at hj
  cases hq:parts.toList[j]? with
  | none=>rw [hq] at hj; cases hj
  | some q =>
   rw [hq] at hj; simp only [Option.map_some,zA] at hj; subst hj
   obtain ⟨h1,h2⟩:=nf j q hq
   exact ⟨by simpa using h1,h2⟩)
 have tx:=DY hb
 have gM:ej b.lv=true:=by rcases tx with h | h | h<;>rw [h]<;>rfl
 let a:Ro:=⟨key,b.lv,false,fun _ _=>true,b.mv,b.sh⟩
 let vss:=parts.toList.map fun p=>(ρ p.2).cells.toList
 have Tk:(ps.toList.flatMap fun p=>p.2.cells.toList)=vss.flatten:=by
  rw [hps]; simp only [List.flatMap,List.map_map]; rfl
 have Vc:=a.Xo (M:=S.lk) la tx (w:=w) (w':=w.alloc (.cells (ps.toList.flatMap fun p=>p.2.cells.toList).toArray (X.id τ))) (γ:=γ) (nb:=some w.heap.size) (fun g h=>by cases h; exact Nat.le_refl _) cm
  (xs:=pss.flatten) (fun g o hg _=>by rw [heap_alloc_old w _ g (bW hg)]; exact hg)
 obtain ⟨e1,e2,e3,e4⟩:=Mv hm hR (key:=key) tx pss vss 0 b oT hb (Nat.le_refl _) xt Vc
 have Hs:pss.length=n:=by rw [← e3]; simp [vss,hn]
 have MU:vss.flatten.length=n*sz τ:=by
  have:∀ (l:List (List Value)),(∀ (j:Nat) (vs:List Value),l[j]? =some vs->vs.length=sz τ)->l.flatten.length=l.length*sz τ:=by
   intro l
   induction l with
   | nil=>simp
   | cons x l ih =>
    intro h
    have h0:=h 0 x rfl
    have:=ih (fun j vs hj=>h (j+1) vs (by simpa using hj))
    simp only [List.flatten_cons,zK,zR,Nat.add_mul,this,h0]; omega
  rw [this vss e2]; simp [vss,hn]
 refine ⟨_,_,_,ng,Rk (a:=a) (row:=⟨τ,b.ys,b.lv⟩) (v:= .slice (some ⟨w.heap.size,0,none⟩) n n) (cs:=vss.flatten) (nb:=some w.heap.size) hR cm hm la (fun r k h=>Da hb h)
  (fun g h=>by cases h; exact ⟨Nat.le_refl _,by simp⟩) rfl rfl rfl (by simp) (fun g hg=>heap_alloc_old w _ g hg) ?_ gM uB⟩
 refine ⟨?_,fun e c ct he de=> ?_⟩
 ·have:dO key b.lv= .own (.r key):=by simp [dO,gM]
  show Sl X _ _ (dO key b.lv) τ _ b.ys.length _
  rw [this,e1,Hs]
  refine ⟨⟨MU,.inr ⟨w.heap.size,n,_,rfl,Nat.zero_le _,heap_alloc_new w _,Nat.le_refl _,?_,by rw [Tk]; simp [MU],?_⟩⟩,fun g hg=> ?_⟩
  ·have:=oz τ
   have h1:n*1<=n*sz τ:=Nat.mul_le_mul_left _ this
   simp only [maxLen]; omega
  ·rw [Tk,List.toList_toArray,← MU,List.take_length]
  ·have:w.heap.size=g:=by simpa [Value.ownBlock] using hg
   simp [Ro.O,this,a]
 ·have VK:e<pss.length:=by rw [← e1]; exact he
  obtain ⟨u,oU,eG⟩:=e4 e c ct VK de
  exact ⟨u,oU,by simpa using eG⟩
theorem H4 {P:Program} {t ty e:TypeId} {i:TypeInfo} {z:Value} {size bytes:Nat} (ht:P.underlying t=some (.slice e)) (hi:P.info? e=some i) (hz:i.zero=some z)
  (rP:i.size=size) (MN:i.bytes=bytes) (JB:z.cells.size=size) (mi:0<size) {v:Value} {n:Nat} {xs:List Value} (gM:w.ownsRow 0 e size v n xs)
  {a:Addr} {k c:Nat} {news:List Value} (hl:news.length=k*size) (KS:∀ j u,news[j]? =some u->w.cell? (a.add j)=some u) (h1:∀ u∈news,u.oneCell'=true)
  (VZ:n+k<=maxLen) (Jw:(n+k)*bytes<=140737488355328) :
  ∃ v' w',(Builtin.append_ #[t,t] ty #[v,.slice (some a) k c]).run P w= .ok v' w'/\w'.ownsRow 0 e size v' (n+k) (xs++news)/\w.grownBy w' v.ownBlock /\
   ∀ g,v'.ownBlock=some g->v.ownBlock=some g\/w.heap.size<=g:=by
 obtain ⟨v',w',hr,ho,hg,_⟩:=run_append_own (P:=P) w 0 t ty e i z size bytes ht hi hz rP MN JB mi v n xs gM a k c news hl KS h1 VZ Jw (Nat.zero_le _)
 refine ⟨v',w',hr,ho,hg,fun g PH=> ?_⟩
 rcases gM.2 with ⟨rfl,rfl⟩ | ⟨g1,cap,cur,rfl,_,Hz,HM,QQ,iX,SK⟩
 ·obtain ⟨v2,w2,fL,XT,_,_⟩:=run_append_own (P:=P) w w.heap.size t ty e i z size bytes ht hi hz rP MN JB mi _ 0 xs ⟨gM.1,.inl ⟨rfl,rfl⟩⟩ a k c news hl KS h1 VZ Jw (Nat.le_refl _)
  rw [hr] at fL; cases fL
  exact .inr (XT.lt g PH).1
 ·by_cases yX:n+k<=cap
  ·left
   have abS:n*i.size+news.length<=cur.size:=by rw [rP,hl,iX,← Nat.add_mul]; exact zP _ yX
   have fL:=run_append_room (P:=P) w t ty e i ht hi g1 n cap cur Hz a k c news (by rw [rP]; exact hl) KS h1 yX abS
   rw [hr] at fL; cases fL
   exact PH
  ·right
   have fL:=run_append_grow (P:=P) w t ty e i z ht hi hz ⟨g1,0,none⟩ n cap xs (by rw [rP]; exact gM.1) (gM.cells (g:=g1) rfl) a k c news (by rw [rP]; exact hl) KS (by omega) (by simp only [maxLen] at VZ; omega)
    (growslice_fits (by omega) (by rw [MN]; exact Jw))
   rw [hr] at fL; cases fL
   have:w.heap.size=g:=by simpa [Value.ownBlock] using PH
   omega
structure Ao where
 key:Nat
 dM:Nat
 off:Nat
 gv:Option Nat
 sh:Option Nat
def Ao.f (a:Ao):Ow->Option Ow
 | .r k=>if some k=a.gv then none else if k=a.key then none else some (.r k)
 | .n k e c=>if some k=a.gv then some (dn a.dM a.key (a.off+e) c) else if some k=a.sh then some .fz else if k=a.key then some (dn a.dM a.key e c) else some (.n k e c)
 | o=>some o
def Ao.R (a:Ao) (r:Nat):Prop:=r=a.key\/some r=a.gv\/some r=a.sh
def Ao.O (a:Ao) (O:OM) (nb:Option Nat):OM:=fun g=>if some g=nb then some (.r a.key) else (O g).bind a.f
theorem Ao.OK (a:Ao) {o:Ow} (h:∀ r,a.R r->o≠ .r r/\∀ e c,o≠ .n r e c):a.f o=some o:=by
 cases o with
 | r k =>
  have hk:¬ a.R k:=fun hr=>(h k hr).1 rfl
  simp only [Ao.R,not_or] at hk
  simp only [Ao.f,if_neg hk.2.1,if_neg hk.1]
 | n k e c =>
  have hk:¬ a.R k:=fun hr=>(h k hr).2 e c rfl
  simp only [Ao.R,not_or] at hk
  simp only [Ao.f,if_neg hk.2.1,if_neg hk.2.2,if_neg hk.1]
 | _=>rfl
def Sg (key:Nat) (row':Row) (g:List Nat) (sy:List (Nat×Option Row)):Dl:={ Dl.z with kr:=key::g,rs:=sy++[(key,some row')] }
theorem AD {key:Nat} {row':Row} {g:List Nat} {sy:List (Nat×Option Row)} (k:Nat):fk (Sg key row' g sy).rs k=if key=k then some (some row') else fk sy k:=by
 show fk (sy++[(key,some row')]) k=_
 rw [ia,Kc]; by_cases h:key=k<;>simp [h]
theorem UC (hR:Rel X S.lk γ w) (cm:∀ g,w.heap.size<=g->γ.O g=none) {a:Ao} {row':Row} {v v':Value} {cs':List Value} {nb:Option Nat} {g:List Nat} {sy:List (Nat×Option Row)}
  (hg:∀ k,k∈g↔some k=a.gv) (Zj:∀ k,fk sy k=if some k=a.gv then some none else if some k=a.sh then (S.lk.r k).map (fun row=>some { row with ow:=4 }) else none)
  (XS:a.gv≠some a.key) (TI:a.sh≠some a.key) (hgs:∀ k,some k=a.gv->some k≠a.sh) (VP:∀ k,some k=a.sh->∃ row,S.lk.r k=some row/\row.ow=5)
  (zl:w.grownBy w' v.ownBlock) (FC:∀ g,v.ownBlock=some g->γ.O g=some (.r a.key)) (hn:∀ g,some g=nb->g<w'.heap.size/\(γ.O g=some (.r a.key)\/w.heap.size<=g))
  (bo:cP X (a.O γ.O nb) w' a.key row' v' cs') (SG:ej row'.ow=true) (uB:¬ (200000<=a.key/\a.key<300000)) :
  let γ':Gh:={ γ with O:=a.O γ.O nb,rv:=dU γ.rv a.key v',cv:=dU γ.cv a.key cs' }
  Step X S γ w (Sg a.key row' g sy) γ' w'/\bq (S.app (Sg a.key row' g sy)).lk γ' (.sw a.key) v':=by
 intro γ'
 have hO:∀ g o,γ.O g=some o->(∀ k,o≠ .r k\/k≠a.key)->a.O γ.O nb g=a.f o:=by
  intro g o ho hk
  have B8:¬ some g=nb:=fun h=>by
   rcases (hn g h).2 with h1 | h1
   ·rw [ho] at h1; cases h1; rcases hk a.key with h | h<;>exact absurd rfl h
   ·have:=cm g h1; rw [this] at ho; cases ho
  simp only [Ao.O,if_neg B8,ho]; rfl
 have nq:∀ g,g<w.heap.size->γ.O g≠some (.r a.key)->w'.heap[g]? =w.heap[g]? :=fun g hg ho=>zl.block g hg (fun e=>ho (FC g e.symm))
 have tz:Ku a.R γ w γ' w':=by
  refine ⟨zl.os,zl.tape,zl.output,zl.size,fun g hg hk=>⟨nq g hg (hk a.key (.inl rfl)).1,?_⟩,fun g hg=> ?_,rfl,fun r hr=> ?_⟩
  ·show a.O γ.O nb g=γ.O g
   cases ho:γ.O g with
   | none =>
    have B8:¬ some g=nb:=fun h=>by
     rcases (hn g h).2 with h1 | h1
     ·rw [ho] at h1; cases h1
     ·omega
    simp only [Ao.O,if_neg B8,ho]; rfl
   | some o =>
    rw [ho] at hk
    rw [hO g o ho (fun k=>by
     by_cases iY:k=a.key
     ·left; rintro rfl; exact (hk a.key (.inl rfl)).1 (by rw [iY])
     ·exact .inr iY)]
    exact a.OK fun r hr=>⟨fun e=>(hk r hr).1 (congrArg some e),fun e c e'=>(hk r hr).2 e c (congrArg some e')⟩
  ·show a.O γ.O nb g=none
   have B8:¬ some g=nb:=fun h=>by have:=(hn g h).1; omega
   simp only [Ao.O,if_neg B8,cm g (Nat.le_trans zl.size hg)]; rfl
  ·have:r≠a.key:=fun e=>hr (.inl e)
   simp [γ',dU,this]
 have rE:(S.app (Sg a.key row' g sy)).lk.r a.key=some row':=by rw [kZ,AD]; simp
 have Fl:∀ k rk,cg k (Sg a.key row' g sy).kr=false->S.lk.r k=some rk->k≠a.key /\
   ∃ rk',(S.app (Sg a.key row' g sy)).lk.r k=some rk'/\rk'.τ=rk.τ/\rk'.xs.length=rk.xs.length/\∀ e,rk'.cs e=rk.cs e:=by
  intro k rk hk Fl
  have hk:¬ k∈a.key::g:=fun h=>by rw [← fg] at h; have hk:cg k (a.key::g)=false:=hk; rw [h] at hk; cases hk
  simp only [zI,not_or] at hk
  refine ⟨hk.1,?_⟩
  rw [kZ,AD,if_neg (Ne.symm hk.1),Zj,if_neg (fun e=>hk.2 ((hg k).2 e))]
  by_cases hs:some k=a.sh
  ·rw [if_pos hs,Fl]; exact ⟨_,rfl,rfl,rfl,fun _=>rfl⟩
  ·rw [if_neg hs]; exact ⟨rk,Fl,rfl,rfl,fun _=>rfl⟩
 refine ⟨lX hR rfl tz ?_ ?_ ?_ (fun k rk h h1=>by
  rw [AD] at h
  by_cases k8:a.key=k
  ·rw [if_pos k8] at h; cases h; exact absurd h1 (tV SG)
  ·rw [if_neg k8,Zj] at h
   by_cases PH:some k=a.gv
   ·rw [if_pos PH] at h; cases h
   ·rw [if_neg PH] at h
    by_cases hs:some k=a.sh
    ·rw [if_pos hs] at h
     obtain ⟨row2,h2,h5⟩:=VP k hs
     rw [h2] at h; simp only [Option.map_some,zA] at h; subst h
     cases h1
    ·rw [if_neg hs] at h; cases h) (fun k h1 h2=>by simp [γ',dU,show k≠a.key by omega]),⟨row',rE⟩,by simp [γ',dU]⟩
 ·refine mq hR rfl (fun k rk hk k8=> ?_) (fun k rk rk' hk k8 _ h=> ?_) (fun k k8 _ _=>⟨fun rk rk' hk h=> ?_⟩) (fun k c hk _=>⟨?_,rfl⟩)
  ·obtain ⟨cR,rk',h1,_⟩:=Fl k rk k8 hk
   exact ⟨⟨rk',h1⟩,by simp [γ',dU,cR]⟩
  ·obtain ⟨cR,rk2,h1,h2,h3,_⟩:=Fl k rk k8 hk
   rw [h] at h1; cases h1
   exact ⟨h2,by omega⟩
  ·obtain ⟨cR,rk2,h1,h2,h3,h4⟩:=Fl k rk k8 hk
   rw [h] at h1; cases h1
   intro e c τ ys _ hc
   exact ⟨⟨ys,by rw [h4]; exact hc,Nat.le_refl _⟩,by simp [γ',dU,cR]⟩
  ·rw [oy]; exact ⟨_,by simp [Sg,Dl.z,fk,hk]; rfl⟩
 ·intro k rk h
  rw [AD] at h
  by_cases k8:a.key=k
  ·subst k8
   rw [if_pos rfl] at h; cases h
   simpa [γ',dU] using bo
  ·rw [if_neg k8,Zj] at h
   by_cases PH:some k=a.gv
   ·rw [if_pos PH] at h; cases h
   ·rw [if_neg PH] at h
    by_cases hs:some k=a.sh
    ·rw [if_pos hs] at h
     obtain ⟨row2,h2,h5⟩:=VP k hs
     rw [h2] at h; simp only [Option.map_some,zA] at h; subst h
     have fL:=hR.rs k row2 h2
     have:=fL.re (O':=a.O γ.O nb) (w':=w') (k':=k) (dM:=4) (by rw [h5]; rfl) (fun g o sa hi=>by
       rw [h5] at hi
       have hi:γ.O g=some (.r k):=hi
       refine ⟨(nq g (bW sa) (by rw [hi]; simp; exact Ne.symm k8)).trans sa,?_⟩
       rw [hO g _ hi (fun j=>by
        by_cases hj:j=a.key
        ·left; rw [hj]; simp; exact Ne.symm k8
        ·exact .inr hj)]
       simp only [Ao.f,if_neg PH,if_neg (Ne.symm k8)]; rfl)
      (fun e c g o sa hi=>by
       rw [h5] at hi
       have hi:γ.O g=some (.n k e c):=hi
       refine ⟨(nq g (bW sa) (by rw [hi]; simp)).trans sa,?_⟩
       rw [hO g _ hi (fun j=> .inl (by simp))]
       simp only [Ao.f,if_neg PH,if_pos hs]; rfl)
     simpa [γ',dU,Ne.symm k8] using this
    ·rw [if_neg hs] at h; cases h
 ·intro k rk h hk Vq
  rw [AD] at h
  by_cases k8:a.key=k
  ·rw [if_pos k8] at h; cases h
  ·rw [if_neg k8,Zj] at h
   rcases Vq with h1 | h1 | h1
   ·exact k8 h1.symm
   ·rw [if_pos h1] at h; cases h
   ·rw [if_neg (fun e=>hgs k e h1),if_pos h1] at h
    obtain ⟨row2,h2,_⟩:=VP k h1
    rw [h2] at h; simp at h
theorem LZ {A:Nat->Prop} {ct:Ct} {v:Value} (h:BQ A w ct v):v.oneCell'=true:=by
 cases ct with
 | u=>exact h.elim
 | l τ ys=>exact h.2.Ja.one
 | _=>have h:v=_:=h; subst h; rfl
theorem RH {A:Nat->Prop} {τ:Ty} {xs:List (El τ)} {v:Value} {cs:List Value} (h:vO A w τ xs v cs):∀ u∈cs,u.oneCell'=true:=by
 intro u hu
 obtain ⟨i,hi,rfl⟩:=List.getElem_of_mem hu
 have hz:=oz τ
 have tw:i<xs.length*sz τ:=by rw [← h.top.1]; exact hi
 have he:i/sz τ<xs.length:=Nat.div_lt_of_lt_mul (by rwa [Nat.mul_comm])
 have hc:i % sz τ<sz τ:=Nat.mod_lt _ hz
 have VB:i/sz τ*sz τ+i % sz τ=i:=by rw [Nat.mul_comm]; exact Nat.div_add_mod i (sz τ)
 have CQ:(cells τ (xs.getD (i/sz τ) (ch τ)))[i % sz τ]? =some ((cells τ (xs.getD (i/sz τ) (ch τ)))[i % sz τ]'(by rw [bd]; exact hc)):=List.getElem?_eq_getElem _
 obtain ⟨u,oU,hr⟩:=h.rG _ _ _ he CQ
 rw [VB,List.getElem?_eq_getElem hi] at oU
 cases oU
 exact LZ hr
theorem wS {A B:Nat->Prop} {z:Nat} {v:Value} {n:Nat} {cs cs':List Value} (h:zz A w z v n cs) (h':zz B w z v n cs'):cs=cs':=by
 have l1:=h.1
 have l2:=h'.1
 rcases h.2 with ⟨_,h0⟩ | ⟨g,o,cap,cur,e,fz,hv,hg,_,_,_,ht⟩
 ·subst h0
  rw [Nat.zero_mul] at l1 l2
  rw [List.length_eq_zero_iff.1 l1,List.length_eq_zero_iff.1 l2]
 ·rcases h'.2 with ⟨_,h0⟩ | ⟨g',o',cap',cur',e',fz',Zb,sa,_,_,_,Jq⟩
  ·subst h0
   rw [Nat.zero_mul] at l1 l2
   rw [List.length_eq_zero_iff.1 l1,List.length_eq_zero_iff.1 l2]
  ·rw [hv] at Zb
   obtain ⟨rfl,rfl⟩:g=g'/\o=o':=by
    injection Zb with h1 _ _; injection h1 with h1; injection h1 with h1 h2 _; exact ⟨h1,h2⟩
   rw [hg] at sa; cases sa
   rw [← ht,← Jq]
theorem Jd (hm:Le m M) (hR:Rel X M γ w) {y:Cv} {v:Value} (hy:bq M γ y v) {τ:Ty} {ys:List (El τ)} (hd:τ.deep=true) (h:(m.vw y).ct=some (.l τ ys)) {cs:List Value} {A:Nat->Prop}
  (hv:vO A w τ ys v cs):ys=[]\/∃ r row off,y.row=some r/\m.r r=some row/\row.τ=τ/\((y= .sw r/\off=0)\/∃ n,y= .sl r off n) /\
   ∀ e c ct,e<ys.length->(cells τ (ys.getD e (ch τ)))[c]? =some ct->∃ u,cs[e*sz τ+c]? =some u/\fU X γ.O w (dR r (off+e) c row.ow) ct u:=by
 cases y with
 | nl σ =>
  simp only [Lk.vw,Vw.ct,zA,Ct.l.injEq] at h
  obtain ⟨rfl,h⟩:=h; cases h; exact .inl rfl
 | sw r =>
  simp only [Lk.vw] at h
  cases hr:m.r r with
  | none=>simp [hr,Vw.ct] at h
  | some row =>
   simp only [hr,Vw.ct,zA,Ct.l.injEq] at h
   obtain ⟨rfl,h⟩:=h; cases h
   obtain ⟨_,rfl⟩:=hy
   have bo:=hR.rs r row (hm.r r row hr)
   have iX:=wS hv.top bo.top.zb
   subst iX
   refine .inr ⟨r,row,0,rfl,hr,rfl,.inl ⟨rfl,rfl⟩,fun e c ct he hc=> ?_⟩
   rw [Nat.zero_add]; exact bo.rG e c ct he hc
 | sl r off len =>
  simp only [Lk.vw] at h
  cases hr:m.r r with
  | none=>simp [hr,Vw.ct] at h
  | some row =>
   simp only [hr,Vw.ct,zA,Ct.l.injEq] at h
   obtain ⟨rfl,h⟩:=h; cases h
   obtain ⟨row',cz,hle,hs⟩:=hy
   rw [hm.r r row hr] at cz; cases cz
   have bo:=hR.rs r row (hm.r r row hr)
   have hl:=kG row.xs hle
   have rZ:=bo.top.zb.sub hle hs
   have ht:=hv.top
   rw [hl] at ht
   have iX:=wS ht rZ
   subst iX
   refine .inr ⟨r,row,off,rfl,hr,rfl,.inr ⟨len,rfl⟩,fun e c ct he hc=> ?_⟩
   rw [hl] at he
   rw [sR row.xs _ he] at hc
   obtain ⟨u,hu,K3⟩:=bo.rG (off+e) c ct (by omega) hc
   refine ⟨u,?_,K3⟩
   have lD:c<sz row.τ:=by
    have:=(zU.1 hc).1
    rwa [bd] at this
   have:e*sz row.τ+c<len*sz row.τ:=by
    have:=zP (sz row.τ) (show e+1<=len from he)
    rw [Nat.add_mul] at this; omega
   rw [List.getElem?_take,if_pos this,List.getElem?_drop,← hu]
   congr 1; rw [Nat.add_mul]; omega
 | nw r e c =>
  simp only [Lk.vw,ic] at h
  cases hr:m.r r with
  | none=>simp [hr,Vw.ct] at h
  | some row =>
   cases hc:(row.cs e)[c]? with
   | none=>simp [hr,hc,Vw.ct] at h
   | some ct =>
    cases ct with
    | l σ zs =>
     simp only [hr,hc,Vw.ct,zA,Ct.l.injEq] at h
     obtain ⟨rfl,h⟩:=h
     have:=Ax _ σ zs (List.mem_of_getElem? hc)
     rw [hd] at this; cases this
    | _=>simp [hr,hc,Vw.ct] at h
 | ns r e c off len =>
  simp only [Lk.vw,ic] at h
  cases hr:m.r r with
  | none=>simp [hr,Vw.ct] at h
  | some row =>
   cases hc:(row.cs e)[c]? with
   | none=>simp [hr,hc,Vw.ct] at h
   | some ct =>
    cases ct with
    | l σ zs =>
     simp only [hr,hc,Vw.ct,zA,Ct.l.injEq] at h
     obtain ⟨rfl,h⟩:=h
     have:=Ax _ σ zs (List.mem_of_getElem? hc)
     rw [hd] at this; cases this
    | _=>simp [hr,hc,Vw.ct] at h
 | _=>simp [Lk.vw,Vw.ct] at h
theorem UH {a:Ao} {nb:Option Nat} {τ:Ty} {xs ys:List (El τ)} {ow:Nat} {v v':Value} {cs news:List Value} (bo:cP X γ.O w a.key ⟨τ,xs,ow⟩ v cs) (YN:a.off=xs.length)
  (gM:w'.ownsRow 0 (X.id τ) (sz τ) v' (xs.length+ys.length) (cs++news)) (tx:a.dM=2\/a.dM=4\/a.dM=5) (hle:nF a.dM ow=true) (SG:ej ow=true) (XS:a.gv≠some a.key) (TI:a.sh≠some a.key)
  (hnb:∀ g,v'.ownBlock=some g->some g=nb) (nq:∀ g o,w.heap[g]? =some o->γ.O g≠some (.r a.key)->w'.heap[g]? =some o)
  (rE:∀ e c ct,e<ys.length->(cells τ (ys.getD e (ch τ)))[c]? =some ct->∃ u,news[e*sz τ+c]? =some u/\fU X (a.O γ.O nb) w' (dR a.key (xs.length+e) c a.dM) ct u)
  (SL:∀ g o,w.heap[g]? =some o->some g=nb->γ.O g=some (.r a.key)) :
  cP X (a.O γ.O nb) w' a.key ⟨τ,xs++ys,a.dM⟩ v' (cs++news):=by
 have P2:dO a.key a.dM= .own (.r a.key):=by
  have:ej a.dM=true:=by rcases tx with h | h | h<;>rw [h]<;>rfl
  simp [dO,this]
 refine ⟨?_,fun e c ct he hc=> ?_⟩
 ·show Sl X _ _ (dO a.key a.dM) τ v' (xs++ys).length _
  rw [P2,zK]
  exact ⟨gM,fun g hg=>by simp only [Ao.O,if_pos (hnb g hg)]⟩
 ·have lD:c<sz τ:=by
   have:=(zU.1 hc).1
   rwa [vy,bd] at this
  have hl:cs.length=xs.length*sz τ:=bo.top.zb.1
  by_cases hex:e<xs.length
  ·have eL:(cells τ (xs.getD e (ch τ)))[c]? =some ct:=by
    rw [vy] at hc
    have:(xs++ys).getD e (ch τ)=xs.getD e (ch τ):=by simp [List.getD,List.getElem?_append_left hex]
    rwa [this] at hc
   obtain ⟨u,hu,hr⟩:=bo.rG e c ct hex eL
   have h1:e*sz τ+c<cs.length:=by
    have:=zP (sz τ) (show e+1<=xs.length from hex)
    rw [Nat.add_mul] at this; omega
   refine ⟨u,by rw [List.getElem?_append_left h1]; exact hu,hr.re (fun g o hg hi=> ?_) (D4 hle _ _ _ _)⟩
   have cR:=u7 (k:=a.key) hi
   refine ⟨nq g o hg cR,?_⟩
   have B8:¬ some g=nb:=fun h=>cR (SL g o hg h)
   have hO:(a.O γ.O nb) g=(γ.O g).bind a.f:=by simp only [Ao.O,if_neg B8]
   rw [hO]
   have acR:¬ some a.key=a.gv:=fun h=>XS h.symm
   have abH:¬ some a.key=a.sh:=fun h=>TI h.symm
   have fz:γ.O g=some .fz->(γ.O g).bind a.f=some .fz:=fun h=>by rw [h]; rfl
   have no:γ.O g=none->(γ.O g).bind a.f=none:=fun h=>by rw [h]; rfl
   have nn:γ.O g=some (.n a.key e c)->(γ.O g).bind a.f=some (dn a.dM a.key e c):=fun h=>by
    rw [h]; show a.f (.n a.key e c)=_; simp only [Ao.f,if_neg acR,if_neg abH,if_true]
   rcases oC SG with rfl | rfl | rfl
   ·have h2:a.dM=2:=by rcases tx with h | h | h<;>rw [h] at hle ⊢<;>first | rfl | (simp [nF] at hle)
    rw [h2]
    have hi:γ.O g=none\/γ.O g=some .fz:=hi
    show (γ.O g).bind a.f=none\/(γ.O g).bind a.f=some Ow.fz
    rcases hi with hi | hi
    ·rw [no hi]; exact .inl rfl
    ·rw [fz hi]; exact .inr rfl
   ·have hi:γ.O g=some .fz:=hi
    rw [fz hi]
    rcases tx with h | h | h<;>rw [h] at hle ⊢
    ·exact .inr rfl
    ·exact rfl
    ·simp [nF] at hle
   ·have hi:γ.O g=some (.n a.key e c):=hi
    rw [nn hi]
    exact Kl tx
  ·obtain ⟨d,rfl⟩:∃ d,e=xs.length+d:=⟨e-xs.length,by omega⟩
   have hd:d<ys.length:=by simp at he; omega
   have eL:(cells τ (ys.getD d (ch τ)))[c]? =some ct:=by
    rw [vy] at hc
    have:(xs++ys).getD (xs.length+d) (ch τ)=ys.getD d (ch τ):=by simp [List.getD,List.getElem?_append_right]
    rwa [this] at hc
   obtain ⟨u,hu,hr⟩:=rE d c ct hd eL
   refine ⟨u,?_,hr⟩
   show (cs++news)[(xs.length+d)*sz τ+c]? =some u
   rw [List.getElem?_append_right (by rw [hl,Nat.add_mul]; omega),hl,← hu]
   congr 1; rw [Nat.add_mul]; omega
def Xi (X:Ctx) (S:St) (γ:Gh) (w:World) (y:Cv) (τ:Ty) (ys:List (El τ)) (cs:List Value) (p:Ap):Prop :=
  ∃ gv sh:Option Nat,(∀ k,k∈p.gone↔some k=gv) /\
   (∀ k,fk p.rs k=if some k=gv then some none else if some k=sh then (S.lk.r k).map (fun row=>some { row with ow:=4 }) else none) /\
   (∀ k,some k=gv->y.row=some k)/\(∀ k,some k=sh->y.row=some k/\∃ row,S.lk.r k=some row/\row.ow=5)/\(∀ k,some k=gv->some k≠sh) /\
   (p.lv=2\/p.lv=4\/p.lv=5) /\
   ∀ (key off dM:Nat) (nb:Option Nat) (w':World),(dM=2\/dM=4\/dM=5)->dM<=p.lv->y.row≠some key ->
    (∀ g o,w.heap[g]? =some o->γ.O g≠some (.r key)->w'.heap[g]? =some o)->(∀ g o,w.heap[g]? =some o->some g=nb->γ.O g=some (.r key)) ->
    ∀ e c ct,e<ys.length->(cells τ (ys.getD e (ch τ)))[c]? =some ct->∃ u,cs[e*sz τ+c]? =some u/\fU X ((⟨key,dM,off,gv,sh⟩:Ao).O γ.O nb) w' (dR key (off+e) c dM) ct u
theorem RL (hm:Le m S.lk) (hR:Rel X S.lk γ w) {y:Cv} {v:Value} (hy:bq S.lk γ y v) {τ:Ty} {ys:List (El τ)} (h:(m.vw y).ct=some (.l τ ys)) {cs:List Value} {A:Nat->Prop} (hv:vO A w τ ys v cs) :
  Xi X S γ w y τ ys cs (m.iW τ y):=by
 have plain:∀ lv,m.iW τ y=⟨[],[],lv⟩->(lv=2\/lv=4\/lv=5) ->
   (∀ (key off dM:Nat) (nb:Option Nat) (w':World),(dM=2\/dM=4\/dM=5)->dM<=lv->y.row≠some key ->
    (∀ g o,w.heap[g]? =some o->γ.O g≠some (.r key)->w'.heap[g]? =some o)->(∀ g o,w.heap[g]? =some o->some g=nb->γ.O g=some (.r key)) ->
    ∀ e c ct,e<ys.length->(cells τ (ys.getD e (ch τ)))[c]? =some ct->∃ u,cs[e*sz τ+c]? =some u/\fU X ((⟨key,dM,off,none,none⟩:Ao).O γ.O nb) w' (dR key (off+e) c dM) ct u)->Xi X S γ w y τ ys cs (m.iW τ y):=by
  intro lv la hlv hc
  rw [la]
  exact ⟨none,none,fun k=>(by simp),fun k=>(by simp [fk]),fun k hk=>(by cases hk),fun k hk=>(by cases hk),fun k hk=>(by cases hk),hlv,hc⟩
 have cell:∀ {key off dM:Nat} {gv sh nb:Option Nat} {w':World} {r e1 e c:Nat} {row:Row} {ct:Ct} {u:Value},(∀ g o,w.heap[g]? =some o->γ.O g≠some (.r key)->w'.heap[g]? =some o) ->
   (∀ g o,w.heap[g]? =some o->some g=nb->γ.O g=some (.r key))->(dM=5->row.ow=5) ->
   (∀ g,In (dR r e1 c row.ow) (γ.O g)->In (dR key (off+e) c dM) ((γ.O g).bind (⟨key,dM,off,gv,sh⟩:Ao).f)) ->
   fU X γ.O w (dR r e1 c row.ow) ct u->fU X ((⟨key,dM,off,gv,sh⟩:Ao).O γ.O nb) w' (dR key (off+e) c dM) ct u:=by
  intro key off dM gv sh nb w' r e1 e c row ct u hh hn h5 hi hc
  refine hc.re (fun g o hg z5=> ?_) (fun gM=> ?_)
  ·have cR:=u7 (k:=key) z5
   refine ⟨hh g o hg cR,?_⟩
   have B8:¬ some g=nb:=fun h=>cR (hn g o hg h)
   show In _ ((⟨key,dM,off,gv,sh⟩:Ao).O γ.O nb g)
   simp only [Ao.O,if_neg B8]
   exact hi g z5
  ·have h6:dM=5:=by revert gM; simp only [dR]; split<;>simp [Ep.pc]
   rw [h5 h6]; rfl
 cases hd:τ.deep with
 | false =>
  refine plain 5 ?_ (by simp) ?_
  ·simp only [Lk.iW,hd]
  ·intro key off dM nb w' _ _ _ _ _ e c ct he hc
   obtain ⟨u,hu,SO⟩:=hv.rG e c ct he hc
   refine ⟨u,hu,?_⟩
   have eF:=List.mem_of_getElem? hc
   cases ct with
   | u=>exact SO
   | l σ zs=>exact absurd rfl (oM hd _ _ eF σ zs)
   | _=>exact SO
 | true =>
  rcases Jd hm hR hy hd h hv with h0 | ⟨r,row,offy,T7,hr,hτ,XY,JD⟩
  ·subst h0
   cases T7:y.row with
   | none =>
    refine plain 5 ?_ (by simp) (fun key off dM nb w' _ _ _ _ _ e c ct he=>by simp at he)
    simp only [Lk.iW,hd,T7]
   | some r =>
    cases hr:m.r r with
    | none =>
     refine plain 2 ?_ (by simp) (fun key off dM nb w' _ _ _ _ _ e c ct he=>by simp at he)
     simp only [Lk.iW,hd,T7,hr]
    | some row =>
     have fL:=hm.r r row hr
     by_cases h5:row.ow=5
     ·by_cases Zc:∃ s,y= .sw s
      ·obtain ⟨s,rfl⟩:=Zc
       have hsr:s=r:=by simpa [Cv.row] using T7
       subst hsr
       have la:m.iW τ (.sw s)=⟨[s],[(s,none)],5⟩:=by simp only [Lk.iW,hd,Cv.row,hr,h5]
       rw [la]
       refine ⟨some s,none,fun k=>(by simp),fun k=> ?_,fun k hk=>(by rw [hk]; rfl),fun k hk=>(by cases hk),fun k _=>(by simp),by simp,fun key off dM nb w' _ _ _ _ _ e c ct he=>by simp at he⟩
       simp only [fk]; by_cases hk:s=k
       ·subst hk; simp
       ·simp [hk,Ne.symm hk]
      ·have la:m.iW τ y=⟨[],[(r,some { row with ow:=4 })],4⟩:=by
        simp only [Lk.iW,hd,T7,hr,h5]
        cases y<;>first | rfl | exact absurd ⟨_,rfl⟩ Zc
       rw [la]
       refine ⟨none,some r,fun k=>(by simp),fun k=> ?_,fun k hk=>(by cases hk),fun k hk=> ?_,fun k hk=>(by cases hk),by simp,fun key off dM nb w' _ _ _ _ _ e c ct he=>by simp at he⟩
       ·simp only [fk]; by_cases hk:r=k
        ·subst hk; simp [fL]
        ·simp [hk,Ne.symm hk]
       ·cases hk; exact ⟨T7,row,fL,h5⟩
     ·have la:m.iW τ y=⟨[],[],(m.iW τ y).lv⟩/\((m.iW τ y).lv=2\/(m.iW τ y).lv=4\/(m.iW τ y).lv=5):=by
       simp only [Lk.iW,hd,T7,hr]
       split<;>simp_all
      exact plain _ la.1 la.2 (fun key off dM nb w' _ _ _ _ _ e c ct he=>by simp at he)
  ·subst hτ
   have fL:=hm.r r row hr
   by_cases h5:row.ow=5
   ·rcases XY with ⟨rfl,rfl⟩ | ⟨n,rfl⟩
    ·have la:m.iW row.τ (.sw r)=⟨[r],[(r,none)],5⟩:=by simp only [Lk.iW,hd,Cv.row,hr,h5]
     rw [la]
     refine ⟨some r,none,fun k=>(by simp),fun k=> ?_,fun k hk=>(by rw [hk]; rfl),fun k hk=>(by cases hk),fun k _=>(by simp),by simp,fun key off dM nb w' tx hle cR hh hn e c ct he hc=> ?_⟩
     ·simp only [fk]; by_cases hk:r=k
      ·subst hk; simp
      ·simp [hk,Ne.symm hk]
     ·obtain ⟨u,hu,K3⟩:=JD e c ct he hc
      refine ⟨u,hu,cell hh hn (fun _=>h5) (fun g hi=> ?_) K3⟩
      rw [h5] at hi
      have hi:γ.O g=some (.n r (0+e) c):=hi
      rw [hi]
      show In _ ((⟨key,dM,off,some r,none⟩:Ao).f (.n r (0+e) c))
      simp only [Ao.f,if_true,Nat.zero_add]
      exact Kl tx
    ·have la:m.iW row.τ (.sl r offy n)=⟨[],[(r,some { row with ow:=4 })],4⟩:=by simp only [Lk.iW,hd,Cv.row,hr,h5]
     rw [la]
     refine ⟨none,some r,fun k=>(by simp),fun k=> ?_,fun k hk=>(by cases hk),fun k hk=> ?_,fun k hk=>(by cases hk),by simp,fun key off dM nb w' tx hle cR hh hn e c ct he hc=> ?_⟩
     ·simp only [fk]; by_cases hk:r=k
      ·subst hk; simp [fL]
      ·simp [hk,Ne.symm hk]
     ·cases hk; exact ⟨rfl,row,fL,h5⟩
     ·obtain ⟨u,hu,K3⟩:=JD e c ct he hc
      have hle:dM<=4:=hle
      refine ⟨u,hu,cell hh hn (fun h=>by omega) (fun g hi=> ?_) K3⟩
      rw [h5] at hi
      have hi:γ.O g=some (.n r (offy+e) c):=hi
      rw [hi]
      show In _ ((⟨key,dM,off,none,some r⟩:Ao).f (.n r (offy+e) c))
      have:¬ (some r=(none:Option Nat)):=by simp
      simp only [Ao.f,if_neg this,if_true]
      rcases tx with rfl | rfl | rfl
      ·exact .inr rfl
      ·exact rfl
      ·omega
   ·have la:(m.iW row.τ y=⟨[],[],4⟩/\(row.ow=4\/row.ow=3))\/(m.iW row.τ y=⟨[],[],2⟩/\∀ e c,dR r e c row.ow= .mT):=by
     simp only [Lk.iW,hd,T7,hr]
     split
     ·contradiction
     ·exact .inl ⟨rfl,.inl (by assumption)⟩
     ·exact .inl ⟨rfl,.inr (by assumption)⟩
     ·refine .inr ⟨rfl,fun e c=> ?_⟩
      simp only [dR]
    rcases la with ⟨la,hk⟩ | ⟨la,hk⟩
    ·refine plain 4 la (by simp) (fun key off dM nb w' tx hle cR hh hn e c ct he hc=> ?_)
     obtain ⟨u,hu,K3⟩:=JD e c ct he hc
     refine ⟨u,hu,cell hh hn (fun h=>by omega) (fun g hi=> ?_) K3⟩
     have hi:γ.O g=some .fz:=by rcases hk with hk | hk<;>rw [hk] at hi<;>exact hi
     rw [hi]
     show In _ (some Ow.fz)
     rcases tx with rfl | rfl | rfl
     ·exact .inr rfl
     ·exact rfl
     ·omega
    ·refine plain 2 la (by simp) (fun key off dM nb w' tx hle cR hh hn e c ct he hc=> ?_)
     obtain ⟨u,hu,K3⟩:=JD e c ct he hc
     refine ⟨u,hu,cell hh hn (fun h=>by omega) (fun g hi=> ?_) K3⟩
     rw [hk] at hi
     have h2:dM=2:=by omega
     subst h2
     show (γ.O g).bind _=none\/(γ.O g).bind _=some Ow.fz
     rcases hi with hi | hi<;>rw [hi]
     ·exact .inl rfl
     ·exact .inr rfl
theorem z7 {τ τ':Ty} {xs:List (El τ')} {ys:List (El τ)} {zs:List (El τ')} (h:BT τ τ' xs ys=some zs):∃ e:τ=τ',zs=xs++e▸ys:=by
 cases τ<;>cases τ'<;>first | (simp only [BT,zA] at h; exact ⟨rfl,h.symm⟩) | (simp [BT] at h; done)
theorem Ge (hX:iy X) (hR:Rel X S.lk γ w) (cm:∀ g,w.heap.size<=g->γ.O g=none) (hm:Le m S.lk) {t ty:TypeId} {τ:Ty} (ht:X.lI t=some τ) {key:Nat} {y:Cv} {xv yv:Value}
  (hy:bq S.lk γ y yv) {ys:List (El τ)} (de:(m.vw y).ct=some (.l τ ys)) (cR:y.row≠some key) {xs:List (El τ)} {ow:Nat} {cs:List Value} (bo:cP X γ.O w key ⟨τ,xs,ow⟩ xv cs)
  (SG:ej ow=true) (acZ:(xs++ys).length<=M6) (uB:¬ (200000<=key/\key<300000)) :
  ∃ u w' γ',(Builtin.append_ #[t,t] ty #[xv,yv]).run X.P w= .ok u w' /\
   Step X S γ w (Sg key ⟨τ,xs++ys,min ow (m.iW τ y).lv⟩ (m.iW τ y).gone (m.iW τ y).rs) γ' w' /\
   bq (S.app (Sg key ⟨τ,xs++ys,min ow (m.iW τ y).lv⟩ (m.iW τ y).gone (m.iW τ y).rs)).lk γ' (.sw key) u:=by
 obtain ⟨hu,zY⟩:=nR ht
 obtain ⟨i,z,hi,hz,hs,hb,_,JB⟩:=s8 hX ht
 obtain ⟨⟨news,mh⟩,_⟩:=As hm hR hy de
 obtain ⟨gv,sh,a1,a2,a3,a4,a5,a6,a7⟩:=RL hm hR hy de mh
 obtain ⟨tx,P2,hle⟩:=EK SG a6
 have adH:xv.ownBlock=none\/True:= .inr trivial
 have YO:dO key ow= .own (.r key):=by simp [dO,SG]
 have pU:w.ownsRow 0 (X.id τ) (sz τ) xv xs.length cs/\∀ g,xv.ownBlock=some g->γ.O g=some (.r key):=by
  have:=bo.top; rw [YO] at this; exact this
 have hlen:(xs++ys).length=xs.length+ys.length:=zK
 have run:∃ v' w',(Builtin.append_ #[t,t] ty #[xv,yv]).run X.P w= .ok v' w'/\w'.ownsRow 0 (X.id τ) (sz τ) v' (xs.length+ys.length) (cs++news)/\w.grownBy w' xv.ownBlock /\
   ∀ g,v'.ownBlock=some g->xv.ownBlock=some g\/w.heap.size<=g:=by
  rcases mh.top.2 with ⟨rfl,h0⟩ | ⟨g,o,cap,cur,e,fz,rfl,hg,_,_,_,_⟩
  ·have hn:news=[]:=by have:=mh.top.1; rw [h0,Nat.zero_mul] at this; exact List.length_eq_zero_iff.1 this
   refine ⟨xv,w,run_append_owned_none (P:=X.P) (w:=w) 0 t ty (X.id τ) i (sz τ) hu hi xv xs.length cs pU.1,?_,⟨rfl,rfl,rfl,Nat.le_refl _,fun _ _ _=>rfl⟩,fun g hg=> .inl hg⟩
   rw [h0,hn,List.append_nil]; exact pU.1
  ·exact H4 (P:=X.P) hu hi hz hs rfl JB (oz τ) pU.1 (a:=⟨g,o,none⟩) mh.top.1 (fun j u hj=>by rw [jy]; exact mh.top.cell rfl hj) (RH mh)
    (by simp only [M6] at acZ; simp only [maxLen]; omega)
    (by have:=Nat.mul_le_mul (show xs.length+ys.length<=M6 by omega) hb; simp only [M6] at this; omega)
 obtain ⟨v',w',ng,gM,zl,jY⟩:=run
 have XS:gv≠some key:=fun h=>cR (a3 key h.symm)
 have TI:sh≠some key:=fun h=>cR (a4 key h.symm).1
 have nq:∀ g o,w.heap[g]? =some o->γ.O g≠some (.r key)->w'.heap[g]? =some o:=fun g o hg ho =>
  (zl.block g (bW hg) (fun e=>ho (pU.2 g e.symm))).trans hg
 have SL:∀ g o,w.heap[g]? =some o->some g=v'.ownBlock->γ.O g=some (.r key):=fun g o hg h=>by
  rcases jY g h.symm with h1 | h1
  ·exact pU.2 g h1
  ·have:=bW hg; omega
 have YQ:=UH (a:=⟨key,min ow (m.iW τ y).lv,xs.length,gv,sh⟩) (nb:=v'.ownBlock) (ys:=ys) (w':=w') bo rfl gM tx hle SG XS TI (fun g h=>h.symm) nq
  (fun e c ct he hc=>a7 key xs.length _ v'.ownBlock w' tx (Nat.min_le_right _ _) cR nq SL e c ct he hc) SL
 obtain ⟨h1,h2⟩:=UC hR cm (a:=⟨key,min ow (m.iW τ y).lv,xs.length,gv,sh⟩) (row':=⟨τ,xs++ys,min ow (m.iW τ y).lv⟩) (v:=xv) (v':=v') (nb:=v'.ownBlock) a1 a2 XS TI a5
  (fun k hk=>(a4 k hk).2) zl pU.2 (fun g h=>by
   refine ⟨(gM.lt g h.symm).2,?_⟩
   rcases jY g h.symm with h1 | h1
   ·exact .inl (pU.2 g h1)
   ·exact .inr h1) YQ P2 uB
 exact ⟨v',w',_,ng,h1,h2⟩
theorem NZ {a:Option Nat} {b:Nat} (h:V5 a b=true):a≠some b:=by
 rintro rfl
 simp [V5,Nat.beq_refl] at h
theorem F1 {r:Nat} (h:yV r=true):¬ (200000<=r/\r<300000):=by
 rintro ⟨h1,h2⟩
 have h3:Nat.ble 200000 r=true:=Nat.ble_eq_true_of_le h1
 have h4:Nat.ble r 299999=true:=Nat.ble_eq_true_of_le (by omega)
 simp [yV,h3,h4] at h
theorem N7 (hX:iy X) (hR:Rel X S.lk γ w) (cm:∀ g,w.heap.size<=g->γ.O g=none) (hm:Le m S.lk) {t ty:TypeId} {τ:Ty} (ht:X.lI t=some τ) {d:Nat} (hd:d<1500) {x y:Cv} {xv yv:Value}
  (hx:bq S.lk γ x xv) (hy:bq S.lk γ y yv) {v:AV} {δ:Dl} (h:m.append τ d x y= .w true v δ) :
  ∃ u w' γ',(Builtin.append_ #[t,t] ty #[xv,yv]).run X.P w= .ok u w'/\Step X S γ w δ γ' w'/\bk (S.app δ).lk γ' v u:=by
 simp only [Lk.append] at h
 cases de:(m.vw y).ct with
 | none=>simp [de] at h
 | some ct =>
  cases ct with
  | l σ ys =>
   simp only [de] at h
   cases XG:Ln σ τ with
   | false=>simp [XG] at h
   | true =>
    have:=AZ XG; subst this
    cases x with
    | nl ρ' =>
     simp only [XG] at h
     cases cR:V5 y.row (d*64) with
     | false=>simp [cR] at h
     | true =>
      simp only [cR,Out.w.injEq] at h
      obtain ⟨hb,rfl,rfl⟩:=h
      have hx:xv= .slice none 0 0:=hx
      subst hx
      have bo:cP X γ.O w (d*64) ⟨σ,[],5⟩ (.slice none 0 0) []:=⟨⟨World.ownsRow_nil w 0 _ _,by simp [Value.ownBlock]⟩,fun e c ct he=>by simp at he⟩
      obtain ⟨u,w',γ',h1,h2,h3⟩:=Ge hX hR cm hm (ty:=ty) ht hy de (NZ cR) bo rfl (by simpa using zQ hb) (by omega)
      have hlv:min 5 (m.iW σ y).lv=(m.iW σ y).lv:=by
       have:(m.iW σ y).lv<=5:=by
        simp only [Lk.iW]
        repeat' split
        all_goals simp
       omega
      rw [hlv] at h2 h3
      exact ⟨u,w',γ',h1,h2,bk.of h3⟩
    | sw r =>
     simp only [XG] at h
     cases MW:V5 y.row r&&yV r with
     | false=>simp [MW] at h
     | true =>
      have T2:=MW
      simp only [zB] at T2
      obtain ⟨cR,Cj⟩:=T2
      cases hr:m.r r with
      | none=>simp [MW,hr] at h
      | some row =>
       obtain ⟨τ',xs,ow⟩:=row
       cases ho:ej ow with
       | false=>simp [MW,hr,ho] at h
       | true =>
        cases hz:BT σ τ' xs ys with
        | none=>simp [MW,hr,ho,hz] at h
        | some zs =>
         simp only [MW,hr,ho,hz,Out.w.injEq] at h
         obtain ⟨hb,rfl,rfl⟩:=h
         obtain ⟨e,rfl⟩:=z7 hz
         subst e
         obtain ⟨_,rfl⟩:=hx
         obtain ⟨u,w',γ',h1,h2,h3⟩:=Ge hX hR cm hm (ty:=ty) ht hy de (NZ cR) (hR.rs r _ (hm.r r _ hr)) ho (zQ hb) (F1 Cj)
         exact ⟨u,w',γ',h1,h2,bk.of h3⟩
    | _=>simp [XG] at h
  | _=>simp [de] at h
theorem Q4 {τ:Ty} (h:RT τ=true):sz τ=1:=by cases τ<;>first | rfl | cases h
theorem K8 {τ:Ty} (h:RT τ=true) (y:El τ):∃ ct,cells τ y=[ct]/\∀ A w u,BQ A w ct u->u=gu ct/\u.oneCell'=true/\∀ X O w c,fU X O w c ct u:=by
 cases τ<;>first | exact ⟨_,rfl,fun _ _ _ h=>by subst h; exact ⟨rfl,rfl,fun _ _ _ _=>rfl⟩⟩ | cases h
theorem OE {τ:Ty} (xs ys:List (El τ)) {off n:Nat} (h:off+n<=xs.length) (hn:n<=ys.length) (e:Nat) :
  (xs.take off++ys.take n++xs.drop (off+n)).getD e (ch τ)=if off<=e/\e<off+n then ys.getD (e-off) (ch τ) else xs.getD e (ch τ):=by
 simp only [List.append_assoc,List.getD,List.getElem?_append,List.length_take,List.getElem?_take,List.getElem?_drop]
 have h1:min off xs.length=off:=by omega
 have h4:min n ys.length=n:=by omega
 rw [h1,h4]
 by_cases h2:e<off
 ·simp [h2,show ¬ (off<=e/\e<off+n) by omega]
 ·by_cases h3:e<off+n
  ·simp [h2,show e-off<n by omega,show off<=e/\e<off+n by omega]
  ·simp [h2,show ¬ e-off<n by omega,show ¬ (off<=e/\e<off+n) by omega,show off+n+(e-off-n)=e by omega]
theorem Rd (hm:Le m S.lk) (hR:Rel X S.lk γ w) {a:Cv} {xv:Value} (hx:bq S.lk γ a xv) {r off len:Nat} {row:Row} (h:m.dst a=some (r,row,off,len)) (ho:ej row.ow=true) :
  S.lk.r r=some row/\off+len<=row.xs.length/\((xv= .slice none 0 0/\len=0) \/
   ∃ g n cap o' cap',γ.rv r= .slice (some ⟨g,0,none⟩) n cap/\xv= .slice (some ⟨g,o',none⟩) len cap'/\(len=0\/o'=off*sz row.τ)):=by
 cases a<;>simp only [Lk.dst] at h<;>try (cases h; done)
 ·rename_i k
  cases hk:m.r k with
  | none=>simp [hk] at h
  | some rw' =>
   simp only [hk,zA,zG] at h
   obtain ⟨rfl,rfl,rfl,rfl⟩:=h
   have fL:=hm.r _ _ hk
   refine ⟨fL,by omega,?_⟩
   have Co:=(hR.rs _ _ fL).top
   rw [show dO k rw'.ow= .own (.r k) by simp [dO,ho]] at Co
   rw [hx.2]
   rcases Co.1.2 with ⟨h3,h4⟩ | ⟨g1,cap1,cur,h3,_⟩
   ·exact .inl ⟨h3,h4⟩
   ·exact .inr ⟨g1,_,_,0,_,h3,h3,.inr (by simp)⟩
 ·rename_i k o l
  cases hk:m.r k with
  | none=>simp [hk] at h
  | some rw' =>
   simp only [hk,zA,zG] at h
   obtain ⟨rfl,rfl,rfl,rfl⟩:=h
   have fL:=hm.r _ _ hk
   obtain ⟨row',cz,hle,rZ⟩:=hx
   rw [fL] at cz; cases cz
   refine ⟨fL,hle,?_⟩
   have Co:=(hR.rs _ _ fL).top
   rw [show dO k rw'.ow= .own (.r k) by simp [dO,ho]] at Co
   rcases rZ with ⟨_,rfl,h0⟩ | ⟨g,o1,n',cap,o',cap',MH,rfl,_,_,_,h0⟩
   ·exact .inl ⟨rfl,h0⟩
   ·rcases Co.1.2 with ⟨h3,h4⟩ | ⟨g1,cap1,cur,h3,_⟩
    ·rw [h3] at MH; cases MH
    ·rw [h3] at MH; injection MH with h5 h6 h7; injection h5 with h5; injection h5 with h5 h8 _
     subst h5; subst h8
     refine .inr ⟨_,_,_,_,_,h3,rfl,?_⟩
     rcases h0 with h0 | h0
     ·exact .inl h0
     ·exact .inr (by rw [h0,Nat.zero_add])
theorem L2 {τ:Ty} {xs ys zs:List (El τ)} (h:BT τ τ xs ys=some zs):zs=xs++ys:=by
 cases τ<;>(simp only [BT,zA] at h; exact h.symm)
theorem Mh (hX:iy X) (hR:Rel X S.lk γ w) (cm:∀ g,w.heap.size<=g->γ.O g=none) (hm:Le m S.lk) {t u ty:TypeId} {a b:Cv} {xv yv:Value} {v:AV} (hx:bq S.lk γ a xv) (hy:bq S.lk γ b yv)
  (h:X.uR m t (.c a) (.c b)= .w0 v δ) :
  ∃ (n:Nat) (w':World) (γ':Gh),v= .c (.i .i64 n)/\(Builtin.copy_ #[t,u] ty #[xv,yv]).run X.P w= .ok (goInt n) w'/\Step X S γ w δ γ' w':=by
 simp only [Ctx.uR] at h
 cases ht:X.lI t with
 | none=>simp [ht] at h
 | some τ =>
  cases hd:m.dst a with
  | none=>simp [ht,hd] at h
  | some q =>
   obtain ⟨r,row,off,len⟩:=q
   cases hc:(m.vw b).ct with
   | none=>simp [ht,hd,hc] at h
   | some ct =>
    cases ct with
    | l σ ys =>
     simp only [ht,hd,hc] at h
     cases h1:ej row.ow&&(Ln row.τ τ&&RT τ) with
     | false=>simp [h1] at h
     | true =>
      cases hz:BT σ row.τ (row.xs.take off) (ys.take (min ys.length len)) with
      | none=>simp [h1,hz] at h
      | some zs =>
       simp only [h1,hz,Out.w0.injEq] at h
       obtain ⟨rfl,rfl⟩:=h
       obtain ⟨τr,xs,ow⟩:=row
       simp only [zB] at h1
       obtain ⟨ho,hτ,h1⟩:=h1
       have hτ:τr=τ:=AZ hτ
       subst hτ
       have e:σ=τr:=by
        obtain ⟨e,_⟩:=z7 hz
        exact e
       subst e
       have acE:zs=xs.take off++ys.take (min ys.length len):=L2 hz
       subst acE
       obtain ⟨fL,hle,hxv⟩:=Rd hm hR hx hd ho
       obtain ⟨hu,zY⟩:=nR ht
       obtain ⟨i,z,hi,Zk,hs,hb,Wt,JB⟩:=s8 hX ht
       have gZ:=Q4 h1
       have mi:(X.P.info? (X.id σ)).map (·.size)=some 1:=by rw [hi,Option.map_some,hs,gZ]
       obtain ⟨⟨csy,mh⟩,_⟩:=As hm hR hy hc
       have bo:=hR.rs r _ fL
       have Cb:dO r ow= .own (.r r):=by simp [dO,ho]
       have hle:off+len<=xs.length:=hle
       let n:=min ys.length len
       have uX:n<=ys.length:=Nat.min_le_left _ _
       have HO:n<=len:=Nat.min_le_right _ _
       have Qq:(xs.take off++ys.take n++xs.drop (off+n)).length=xs.length:=by simp; omega
       show ∃ (n':Nat) (w':World) (γ':Gh),AV.c (.i .i64 (n:Nat))= .c (.i .i64 n')/\_/\Step X S γ w (S9 r ⟨σ,xs.take off++ys.take n++xs.drop (off+n),ow⟩) γ' w'
       have same:∀ (cv':List Value) (O':OM) (w':World),Ku (·=r) γ w { γ with O:=O',cv:=dU γ.cv r cv' } w'->cP X O' w' r ⟨σ,xs.take off++ys.take n++xs.drop (off+n),ow⟩ (γ.rv r) cv' ->
         Step X S γ w (S9 r ⟨σ,xs.take off++ys.take n++xs.drop (off+n),ow⟩) { γ with O:=O',cv:=dU γ.cv r cv' } w':=fun cv' O' w' tz rE =>
        wE (row':=⟨σ,xs.take off++ys.take n++xs.drop (off+n),ow⟩) hR fL rfl (by show xs.length<=(xs.take off++ys.take n++xs.drop (off+n)).length; omega) (tV ho) tz rE
       have hyv:(yv= .slice none 0 0/\ys.length=0)\/∃ g2 o2 cap2 cur2 e2 fz2,yv= .slice (some ⟨g2,o2,none⟩) ys.length cap2/\w.heap[g2]? =some (.cells cur2 e2 fz2)/\o2+ys.length*sz σ<=cur2.size/\(cur2.toList.drop o2).take (ys.length*sz σ)=csy:=by
        rcases mh.top.2 with h | ⟨g,o,c,cu,e',f,h2,h3,_,_,h4,h5⟩
        ·exact .inl h
        ·exact .inr ⟨g,o,c,cu,e',f,h2,h3,h4,h5⟩
       by_cases T8:n=0
       ·have rE:xs.take off++ys.take n++xs.drop (off+n)=xs:=by rw [T8]; simp
        refine ⟨n,w,_,rfl,?_,same (γ.cv r) γ.O w ⟨rfl,rfl,rfl,Nat.le_refl _,fun _ _ _=>⟨rfl,rfl⟩,cm,rfl,fun j hj=>by simp [dU,hj]⟩ (by rw [rE]; simpa [dU] using bo)⟩
        rw [T8]
        rcases hxv with ⟨rfl,_⟩ | ⟨g,n',cap,o',cap',_,rfl,_⟩<;>rcases hyv with ⟨rfl,_⟩ | ⟨g2,o2,cap2,cur2,e2,fz2,rfl,_⟩ <;>
         exact run_copy_none (P:=X.P) w t u ty (X.id σ) _ _ _ _ _ _ hu mi (by first | exact Nat.zero_min _ | exact Nat.min_zero _ | exact T8)
       ·rcases hxv with ⟨_,h0⟩ | ⟨g,n',cap,o',cap',vP,rfl,h0⟩
        ·exact absurd (show n=0 by omega) T8
        rcases hyv with ⟨_,h00⟩ | ⟨g2,o2,cap2,cur2,e2,fz2,rfl,Ym,SY,Wj⟩
        ·exact absurd (show n=0 by omega) T8
        have MO:o'=off:=by
         rcases h0 with h0 | h0
         ·omega
         ·rw [h0]; show off*sz σ=off; rw [gZ,Nat.mul_one]
        subst MO
        have Co:=bo.top
        rw [show dO r (Row.ow ⟨σ,xs,ow⟩)= .own (.r r) from Cb] at Co
        obtain ⟨gM,oP⟩:=Co
        rcases gM.2 with ⟨h3,_⟩ | ⟨g1,cap1,cur,h3,_,hg,HM,QQ,iX,SK⟩
        ·rw [h3] at vP; cases vP
        have M3:g1=g:=by
         rw [h3] at vP; injection vP with h _ _; injection h with h; injection h with h2 h3 _
        subst M3
        have QR:xs.length<=cur.size:=by
         have:xs.length<=cap1:=HM
         rw [iX,show sz σ=1 from gZ]; omega
        have adN:csy.length=ys.length:=by have:=mh.top.1; rwa [gZ,Nat.mul_one] at this
        have yn:(csy.take n).length=n:=by rw [List.length_take]; omega
        have JD:∀ j,j<ys.length->∃ ct u,cells σ (ys.getD j (ch σ))=[ct]/\csy[j]? =some u/\u=gu ct/\u.oneCell'=true/\∀ X O w c,fU X O w c ct u:=by
         intro j hj
         obtain ⟨ct,de,CQ⟩:=K8 h1 (ys.getD j (ch σ))
         obtain ⟨u,oU,hv⟩:=mh.rG j 0 ct hj (by rw [de]; rfl)
         rw [gZ,Nat.mul_one,Nat.add_zero] at oU
         obtain ⟨q1,q2,q3⟩:=CQ _ _ _ hv
         exact ⟨ct,u,de,oU,q1,q2,q3⟩
        have ng:=run_copy_row (P:=X.P) w t u ty (X.id σ) g1 o' len cap' ⟨g2,o2,none⟩ ys.length cap2 cur _ (csy.take n) hu mi hg yn
         (fun j v hj=>by
          have KU:j<n:=by have:=(zU.1 hj).1; rwa [yn] at this
          rw [List.getElem?_take,if_pos KU,← Wj,List.getElem?_take,if_pos (by rw [gZ]; omega),List.getElem?_drop] at hj
          have:(Addr.add ⟨g2,o2,none⟩ j)=⟨g2,o2+j,none⟩:=by unfold Addr.add; split<;>simp_all
          rw [this]
          simp only [World.cell?,Ym]
          simpa using hj)
         (by rw [yn]; omega)
         (fun v hv=>by
          obtain ⟨j,hj⟩:=List.mem_iff_getElem?.1 hv
          have KU:j<n:=by have:=(zU.1 hj).1; rwa [yn] at this
          rw [List.getElem?_take,if_pos KU] at hj
          obtain ⟨ct,u,_,q,_,q2,_⟩:=JD j (by omega)
          rw [hj] at q; cases q; exact q2)
        have Qc:γ.O g1=some (.r r):=oP g1 (by rw [h3]; rfl)
        have mQ:(γ.cv r).length=xs.length:=by have:=gM.1; rwa [gZ,Nat.mul_one] at this
        rw [yn] at ng
        refine ⟨n,_,_,rfl,ng,same (Soft.cQ (γ.cv r) o' (csy.take n)) γ.O _ ?_ ?_⟩
        ·exact ⟨rfl,rfl,rfl,by simp,fun g sa cR=>⟨l8 w _ _ g (fun h=>by have:=(cR r rfl).1; rw [h,Qc] at this; exact this rfl),rfl⟩,
          fun g sa=>cm g (by simpa using sa),rfl,fun j hj=>by simp [dU,hj]⟩
        ·have YA:cur.toList.take o'++csy.take n++cur.toList.drop (o'+n)=Soft.cQ cur.toList o' (csy.take n):=by simp only [Soft.cQ,yn]
         refine ⟨?_,fun e c ct he de=> ?_⟩
         ·show Sl X γ.O _ (dO r ow) σ _ (xs.take o'++ys.take n++xs.drop (o'+n)).length _
          rw [Qq,Cb,YA]
          refine ⟨⟨by rw [g5 _ _ _ (by rw [mQ,yn]; omega),mQ,gZ,Nat.mul_one],.inr ⟨g1,cap1,_,h3,Nat.zero_le _,sY w _ _ _ _ _ hg,HM,QQ,?_,?_⟩⟩,oP⟩
          ·rw [List.size_toArray,g5 _ _ _ (by rw [yn,Array.length_toList]; omega),Array.length_toList,iX]
          ·rw [List.toList_toArray,tZ _ _ _ _ (by rw [yn]; show o'+n<=xs.length*sz σ; rw [gZ]; omega) (by show xs.length*sz σ<=cur.toList.length; rw [gZ,Nat.mul_one]; simpa using QR),SK]
         ·have Sx:e<xs.length:=by
           have:e<(xs.take o'++ys.take n++xs.drop (o'+n)).length:=he
           rwa [Qq] at this
          have tq:(cells σ ((xs.take o'++ys.take n++xs.drop (o'+n)).getD e (ch σ)))[c]? =some ct:=de
          have nk:c=0:=by have:=(zU.1 tq).1; rw [bd,gZ] at this; omega
          subst nk
          rw [OE _ _ (by omega) uX] at tq
          show ∃ u,(Soft.cQ (γ.cv r) o' (csy.take n))[e*sz σ+0]? =some u/\fU X γ.O _ (dR r e 0 ow) ct u
          rw [gZ,Nat.mul_one,Nat.add_zero]
          by_cases z5:o'<=e/\e<o'+n
          ·rw [if_pos z5] at tq
           obtain ⟨j,rfl⟩:∃ j,e=o'+j:=⟨e-o',by omega⟩
           have hj:j<n:=by omega
           rw [Nat.add_sub_cancel_left] at tq
           obtain ⟨ct',u,q1,q2,q3,_,q4⟩:=JD j (by omega)
           rw [q1] at tq
           simp only [List.getElem?_cons_zero,zA] at tq
           subst tq
           exact ⟨u,by rw [dK _ _ _ _ (by rw [yn]; exact hj) (by rw [yn,mQ]; omega),List.getElem?_take,if_pos hj,q2],q4 _ _ _ _⟩
          ·rw [if_neg z5] at tq
           obtain ⟨u,oU,eG⟩:=bo.rG e 0 ct Sx tq
           have oU:(γ.cv r)[e*sz σ+0]? =some u:=oU
           rw [gZ,Nat.mul_one,Nat.add_zero] at oU
           refine ⟨u,?_,eG.re (fun g o sa tw=>⟨(l8 w _ _ g (fun h=>u7 tw (h▸Qc))).trans sa,tw⟩) id⟩
           rcases Nat.lt_or_ge e o' with h | h
           ·rw [cT _ _ _ _ h (by rw [mQ]; omega)]; exact oU
           ·rw [cS _ _ _ _ (by rw [yn]; omega) (by rw [yn,mQ]; omega)]; exact oU
    | _=>simp [ht,hd,hc] at h
def A7 (X:Ctx) (S:St) (γ:Gh) (w:World) (ρ:Operand->Value) (o:Oper) (v:AV) (δ:Dl):Prop :=
 ∃ r u w' γ',(Go.execOp ρ o).run X.P w= .ok r w'/\(r= .value u\/(r= .skip/\u=undef))/\bk (S.app δ).lk γ' v u/\Step X S γ w δ γ' w'
theorem A7.of {o:Oper} {v:AV} {s:Sem Value} (he:Go.execOp ρ o=(do let x←s; pure (.value x)))
  (h:∃ u w' γ',s.run X.P w= .ok u w'/\Step X S γ w δ γ' w'/\bk (S.app δ).lk γ' v u):A7 X S γ w ρ o v δ:=by
 obtain ⟨u,w',γ',h1,h2,h3⟩:=h
 exact ⟨.value u,u,w',γ',by rw [he,Sem.run_bind,h1]; rfl,.inl rfl,h3,h2⟩
theorem A7.ofU {o:Oper} {s:Sem Unit} (he:Go.execOp ρ o=(do s; pure .skip))
  (h:∃ w' γ',s.run X.P w= .ok () w'/\Step X S γ w δ γ' w'):A7 X S γ w ρ o u8 δ:=by
 obtain ⟨w',γ',h1,h2⟩:=h
 exact ⟨.skip,undef,w',γ',by rw [he,Sem.run_bind,h1]; rfl,.inr ⟨rfl,rfl⟩,⟨[],rfl,.nil⟩,h2⟩
theorem BZ {P:Program} (t:TypeId) (v:Value) (w:World):(newVar t v).run P w= .ok ⟨w.heap.size,0,none⟩ (w.alloc (.cells v.cells t)):=by
 rfl
theorem O5 {P:Program} {t:TypeId} {i:TypeInfo} {z:Value} (hi:P.info? t=some i) (hz:i.zero=some z) (w:World):(zeroValue t).run P w= .ok z w:=by
 simp [zeroValue,typeInfo,hi,hz]
theorem I0 (hR:Rel X S.lk γ w) (cm:∀ g,w.heap.size<=g->γ.O g=none) {t:TypeId} {cs:List Cv} (h:X.zero t=some cs) (key:Nat) (uB:1000<=key) :
  ∃ u w' γ',(Instr.alloc t true (.tuple #[])).run X.P w= .ok u w'/\Step X S γ w (GO key cs) γ' w'/\bk (S.app (GO key cs)).lk γ' (.c (.pv key 0)) u:=by
 obtain ⟨i,z,hi,hz,hr⟩:=J3 (M:=(S.app (GO key cs)).lk) (γ:=Gy γ w key) h
 obtain ⟨h1,h2⟩:=JU key cs uB hR cm z.cells.toList t hr
 refine ⟨_,_,_,?_,h1,bk.of h2⟩
 simp only [Instr.alloc,Sem.run_bind,O5 hi hz,Result.andThen_ok,BZ,Sem.run_pure]
theorem Ol (hR:Rel X S.lk γ w) (cm:∀ g,w.heap.size<=g->γ.O g=none) {t:TypeId} {cs:List Cv} {v:Value} (hv:ca S.lk γ cs v.cells.toList) (key:Nat) (uB:1000<=key) :
  let cs':=rW (Dl.map { Dl.z with kv:=[key] }) cs
  ∃ u w' γ',(Instr.box t v).run X.P w= .ok u w'/\Step X S γ w (GO key cs') γ' w'/\bk (S.app (GO key cs')).lk γ' (.c (.pv key 0)) u:=by
 intro cs'
 have Hx:(GO key cs').map=(Dl.map { Dl.z with kv:=[key] }):=by
  funext x; cases x<;>rfl
 have hr:=hv.map (E7 (key:=key) (cs:=cs') hR)
 rw [Hx,← wj] at hr
 obtain ⟨h1,h2⟩:=JU key cs' uB hR cm v.cells.toList t hr
 refine ⟨_,_,_,?_,h1,bk.of h2⟩
 simp only [Instr.box,Sem.run_bind,BZ,Result.andThen_ok,Sem.run_pure]
theorem Im (hR:Rel X S.lk γ w) (cm:∀ g,w.heap.size<=g->γ.O g=none) (hm:Le m S.lk) {x:Cv} {vl:List Cv} {av v:Value} {t:TypeId} (hx:bq S.lk γ x av)
  (hv:ca S.lk γ vl v.cells.toList) (hs:vl.length=fS X.P t) (hp:0<vl.length) {u:AV} (h:m.store x vl= .w0 u δ\/m.store x vl= .w true u δ) :
  u=u8/\∃ w' γ',(Instr.storeAt t av v).run X.P w= .ok () w'/\Step X S γ w δ γ' w':=by
 cases x with
 | pv k c =>
  simp only [Lk.store] at h
  cases hk:m.v k with
  | none=>simp [hk] at h
  | some r8 =>
   simp only [hk] at h
   cases hb:Nat.ble (c+vl.length) r8.length with
   | false=>simp [hb] at h
   | true =>
    simp only [hb,Out.w0.injEq,reduceCtorEq,or_false] at h
    obtain ⟨rfl,rfl⟩:=h
    obtain ⟨w',h1,h2⟩:=R4 k c r8 vl hR cm hx (hm.v k r8 hk) (zQ hb) hv hs hp
    exact ⟨rfl,w',γ,h1,h2⟩
 | pe r e c =>
  simp only [Lk.store] at h
  cases hr:m.r r with
  | none=>simp [hr] at h
  | some row =>
   simp only [hr] at h
   cases ho:ej row.ow with
   | false=>simp [ho] at h
   | true =>
    cases ha:m.bT e c vl with
    | none=>simp [ho,ha] at h
    | some a =>
     cases hb:Nat.ble (c+vl.length) (sz row.τ) with
     | false=>simp [ho,ha,hb] at h
     | true =>
      cases hy:rV row.τ (cQ (row.cs e) c a.iw) with
      | none=>simp [ho,ha,hb,hy] at h
      | some y =>
       simp only [ho,ha,hb,hy] at h
       have hb:=zQ hb
       cases hf:jO vl with
       | true =>
        simp only [hf,Out.w.injEq,reduceCtorEq,false_or] at h
        obtain ⟨h0,rfl,rfl⟩:=h
        obtain ⟨w',γ',h1,h2⟩:=RN hR cm hm hr ho hf ha hb hy h0 hv hx hs hp
        exact ⟨rfl,w',γ',h1,h2⟩
       | false =>
        simp only [hf] at h
        cases hn:fv (r::(keys a.mv++keys a.sh)) with
        | false=>simp [hn] at h
        | true =>
         simp only [hn,Out.w.injEq,reduceCtorEq,false_or] at h
         obtain ⟨h0,rfl,rfl⟩:=h
         obtain ⟨w',γ',h1,h2⟩:=RA hR cm hm hr ho ha hb hy h0 (gE.1 hn) hv hx hs hp
         exact ⟨rfl,w',γ',h1,h2⟩
 | pn r e c k d =>
  simp only [Lk.store] at h
  cases hr:m.r r with
  | none=>simp [hr] at h
  | some row =>
   simp only [hr] at h
   cases ho:Nat.beq row.ow 5 with
   | false=>simp [ho] at h
   | true =>
    cases hf:jO vl with
    | false=>simp [ho,hf] at h
    | true =>
     cases hc:m.iw vl with
     | none=>simp [ho,hf,hc] at h
     | some iw =>
      simp only [ho,hf,hc,ic] at h
      cases hn:(row.cs e)[c]? with
      | none=>simp [hn] at h
      | some ct =>
       cases ct with
       | l τ ys =>
        simp only [hn] at h
        cases hb:Nat.ble (d+vl.length) (sz τ) with
        | false=>simp [hb] at h
        | true =>
         cases hy:rV τ (cQ (cells τ (ys.getD k (ch τ))) d iw) with
         | none=>simp only [hb,hy,reduceCtorEq,or_self] at h
         | some y =>
          cases hz:rV row.τ (cQ (row.cs e) c [.l τ (ys.set k y)]) with
          | none=>simp only [hb,hy,hz,reduceCtorEq,or_self] at h
          | some z =>
           simp only [hb,hy,hz,Out.w.injEq,reduceCtorEq,false_or] at h
           obtain ⟨h0,rfl,rfl⟩:=h
           obtain ⟨w',h1,h2⟩:=QS hR cm hm hr (aG ho) hf hc hn (zQ hb) hy hz h0 hv hx hs hp
           exact ⟨rfl,w',γ,h1,h2⟩
       | _=>simp [hn] at h
 | _=>simp [Lk.store] at h
theorem U6 (hX:iy X) (hR:Rel X S.lk γ w) (cm:∀ g,w.heap.size<=g->γ.O g=none) (hm:Le m S.lk) {evp:List (Nat×Bool)->TypeId->Operand->AV} (rA:∀ ty x,bk S.lk γ (evp [] ty x) (ρ x))
  {d:Nat} (hd:d<1500) {o:Oper} {v:AV} (h:bZ X evp m d o.type o.op= .w0 v δ\/bZ X evp m d o.type o.op= .w true v δ):A7 X S γ w ρ o v δ:=by
 obtain ⟨dst,op,type,pos,aft,guard⟩:=o
 simp only at h
 cases op with
 | alloc t =>
  simp only [bZ] at h
  cases hz:X.zero t with
  | none=>simp [hz] at h
  | some cs =>
   simp only [hz,Out.w0.injEq,reduceCtorEq,or_false] at h
   obtain ⟨rfl,rfl⟩:=h
   exact A7.of rfl (I0 hR cm hz _ (by omega))
 | box t x =>
  simp only [bZ] at h
  cases hc:(evp [] t x).cells with
  | none=>simp [hc] at h
  | some cs =>
   cases hb:Nat.beq cs.length (fS X.P t) with
   | false=>simp [hc,hb] at h
   | true =>
    simp only [hc,hb,Out.w0.injEq,reduceCtorEq,or_false] at h
    obtain ⟨rfl,rfl⟩:=h
    exact A7.of rfl (Ol hR cm (qi hR (rA t x) hc) _ (by omega))
 | buildSlice t n parts =>
  simp only [bZ] at h
  cases ht:X.lI t with
  | none=>simp [ht] at h
  | some τ =>
   simp only [ht] at h
   cases h1:Nat.beq parts.size n&&Nat.ble (n*sz τ) 16777216 with
   | false=>simp [h1] at h
   | true =>
    cases hp:partsOf (evp [] type) (sz τ) 0 parts.toList with
    | none=>simp [h1,hp] at h
    | some pss =>
     simp only [h1,hp] at h
     cases hb:m.kf τ 0 pss with
     | none=>simp [hb] at h
     | some b =>
      simp only [hb] at h
      cases hn:fv (d*64::(keys b.mv++keys b.sh)) with
      | false=>simp [hn] at h
      | true =>
       simp only [hn] at h
       simp only [zB] at h1
       obtain ⟨h1,h2⟩:=h1
       have h2:=zQ h2
       cases MN:τ.isByte with
       | true =>
        simp only [MN,Out.w.injEq,reduceCtorEq,false_or] at h
        obtain ⟨h0,rfl,rfl⟩:=h
        obtain ⟨v,w',γ',g1,g2,g3⟩:=Gf hX hR cm hm ht (rA type) (aG h1) h2 hp hb (gE.1 hn) (fun _=>h0) (by omega)
        exact A7.of rfl ⟨v,w',γ',g1,g2,bk.of g3⟩
       | false =>
        simp only [MN,Out.w0.injEq,reduceCtorEq,or_false] at h
        obtain ⟨rfl,rfl⟩:=h
        obtain ⟨v,w',γ',g1,g2,g3⟩:=Gf hX hR cm hm ht (rA type) (aG h1) h2 hp hb (gE.1 hn) (fun e=>by rw [MN] at e; cases e) (by omega)
        exact A7.of rfl ⟨v,w',γ',g1,g2,bk.of g3⟩
 | store t x y =>
  simp only [bZ] at h
  have hr:=rA type x
  cases hx:evp [] type x with
  | c a =>
   cases hc:(evp [] t y).cells with
   | none=>simp [hx,hc] at h
   | some cs =>
    simp only [hx,hc] at h
    cases hb:Nat.beq cs.length (fS X.P t)&&Nat.ble 1 cs.length with
    | false=>simp [hb] at h
    | true =>
     simp only [hb] at h
     simp only [zB] at hb
     rw [hx] at hr
     have FF:a≠ .un:=by rintro rfl; simp [Lk.store] at h
     obtain ⟨rfl,w',γ',h1,h2⟩:=Im hR cm hm (bk.to hr FF) (qi hR (rA t y) hc) (aG hb.1) (zQ hb.2) h
     exact A7.ofU rfl ⟨w',γ',h1,h2⟩
  | _=>simp [hx] at h
 | makeSlice t n c =>
  simp only [bZ] at h
  cases ht:X.lI t with
  | none=>simp [ht] at h
  | some τ =>
   cases hn:(evp [] type n).int with
   | none=>simp [ht,hn] at h
   | some a =>
    cases hc:(evp [] type c).int with
    | none=>simp [ht,hn,hc] at h
    | some b =>
     simp only [ht,hn,hc,Out.w.injEq,reduceCtorEq,false_or,zB,beq_iff_eq,zD] at h
     obtain ⟨⟨rfl,h0,h1⟩,rfl,rfl⟩:=h
     obtain ⟨k,hk⟩:=vX (rA type n) hn
     obtain ⟨k',uA⟩:=vX (rA type c) hc
     have h1:=zQ h1
     obtain ⟨v,w',γ',g1,g2,g3⟩:=Mw hX hR cm ht (k:=k) (k':=k') h1 (d*64) (by omega)
     rw [show ((a.toNat:Nat):Int)=a by omega] at g1
     exact A7.of rfl ⟨v,w',γ',by rw [hk,uA]; exact g1,g2,bk.of g3⟩
 | call c =>
  obtain ⟨callee,args,argTypes⟩:=c
  cases callee with
  | builtin b =>
   simp only [bZ] at h
   revert h; split
   ·intro h; exfalso; revert h; simp only [Ctx.Iw,Oy]
    repeat' split
    all_goals simp
   ·rename_i x y t u ha ht
    intro h
    have Fw:args= #[x,y]:=Array.toList_inj.1 ha
    have Jq:argTypes= #[t,u]:=Array.toList_inj.1 ht
    subst Fw; subst Jq
    simp only [Ctx.U7] at h
    revert h; split
    ·rename_i τ a b he hb hxa Vd
     intro h
     have h:m.append τ d a b= .w true v δ:=by
      rcases h with h | h
      ·exfalso; revert h; simp only [Lk.append]; repeat' split
       all_goals simp
      ·exact h
     have:=aG hb; subst this
     have hx:=rA t x; rw [hxa] at hx
     have hy:=rA t y; rw [Vd] at hy
     have hau:a≠ .un:=by
      rintro rfl; revert h; simp only [Lk.append]; repeat' split
      all_goals simp_all
     have hbu:b≠ .un:=by
      rintro rfl; revert h; simp only [Lk.append]; simp [Lk.vw,Vw.ct]
     obtain ⟨r,w',γ',g1,g2,g3⟩:=N7 (ty:=type) hX hR cm hm he hd (bk.to hx hau) (bk.to hy hbu) h
     refine ⟨.value r,r,w',γ',?_,.inl rfl,g3,g2⟩
     simp only [Go.execOp,resolve,invoke,Sem.run_bind,Sem.run_pure,Result.andThen_ok,builtin,List.map_toArray,List.map,g1]
    ·simp
   ·rename_i x t ha ht
    intro h
    have Fw:args= #[x]:=Array.toList_inj.1 ha
    have Jq:argTypes= #[t]:=Array.toList_inj.1 ht
    subst Fw; subst Jq
    have hx:=rA t x
    cases Vb:evp [] t x with
    | c a =>
     rw [Vb] at h hx
     cases a with
     | sl r off len =>
      have h:X.sN m t (.c (.sl r off len))= .w0 v δ:=by
       rcases h with h | h
       ·exact h
       ·exfalso; revert h; simp only [Ctx.sN]; repeat' split
        all_goals simp
      obtain ⟨rfl,w',γ',g1,g2⟩:=HX hX hR cm hm hx h type
      refine ⟨.value (.tuple #[]),_,w',γ',?_,.inl rfl,⟨[],rfl,.nil⟩,g2⟩
      simp only [Go.execOp,resolve,invoke,Sem.run_bind,Sem.run_pure,Result.andThen_ok,builtin,List.map_toArray,List.map,g1]
     | _=>simp [Ctx.sN] at h
    | _=>rw [Vb] at h; simp [Ctx.sN] at h
   ·rename_i x y t u ha ht
    intro h
    have Fw:args= #[x,y]:=Array.toList_inj.1 ha
    have Jq:argTypes= #[t,u]:=Array.toList_inj.1 ht
    subst Fw; subst Jq
    have hx:=rA t x
    have hy:=rA u y
    have h:X.uR m t (evp [] t x) (evp [] u y)= .w0 v δ:=by
     rcases h with h | h
     ·exact h
     ·exfalso; revert h; simp only [Ctx.uR]; repeat' split
      all_goals simp
    cases Vb:evp [] t x with
    | c a =>
     cases VM:evp [] u y with
     | c b =>
      rw [Vb,VM] at h
      rw [Vb] at hx; rw [VM] at hy
      have hau:a≠ .un:=by
       rintro rfl
       cases he:X.lI t<;>simp [Ctx.uR,he,Lk.dst] at h
      have hbu:b≠ .un:=by
       rintro rfl
       cases he:X.lI t<;>cases hq:m.dst a<;>simp [Ctx.uR,he,hq,Lk.vw,Vw.ct] at h
      obtain ⟨n,w',γ',rfl,g1,g2⟩:=Mh (ty:=type) (u:=u) hX hR cm hm (bk.to hx hau) (bk.to hy hbu) h
      refine ⟨.value (goInt n),_,w',γ',?_,.inl rfl,rfl,g2⟩
      simp only [Go.execOp,resolve,invoke,Sem.run_bind,Sem.run_pure,Result.andThen_ok,builtin,List.map_toArray,List.map,g1]
     | _=>rw [Vb,VM] at h; simp [Ctx.uR] at h
    | _=>rw [Vb] at h; simp [Ctx.uR] at h
   ·intro h; exfalso; revert h; simp only [V7]; repeat' split
    all_goals simp
   ·intro h; exfalso; revert h; simp only [V7]; repeat' split
    all_goals simp
   ·simp
  | value f=>simp [bZ] at h
  | invoke r n=>simp [bZ] at h
 | move x=>simp [bZ] at h
 | assign x=>simp [bZ] at h
 | pick c a b =>
  exfalso; revert h; simp only [bZ]; repeat' split
  all_goals simp
 | build t ps =>
  exfalso; revert h; simp only [bZ]; repeat' split
  all_goals simp
 | load t x =>
  exfalso; revert h; simp only [bZ]; repeat' split
  all_goals simp
 | nilCheck x =>
  exfalso; revert h; simp only [bZ]; repeat' split
  all_goals simp
 | binOp op t x y c =>
  exfalso; revert h; simp only [bZ,Ctx.ER]
  have hb:∀ (a b:AV),¬ (mE op a b= .w0 v δ\/mE op a b= .w true v δ):=by
   intro a b; simp only [mE]; repeat' split
   all_goals simp
  repeat' split
  all_goals first | exact hb _ _ | simp
 | unOp op t x =>
  exfalso; revert h; simp only [bZ,V4]; repeat' split
  all_goals simp
 | convert t u x =>
  exfalso; revert h; simp only [bZ,Ctx.JK]; repeat' split
  all_goals simp
 | makeFunc fn first caps =>
  exfalso; revert h; cases fn<;>simp only [bZ]<;>repeat' split
  all_goals simp
 | slice t x lo hi mx =>
  exfalso; revert h; simp only [bZ]
  have hb:∀ (a:AV) (l k:Option Int),¬ (m.oJ a l k= .w0 v δ\/m.oJ a l k= .w true v δ):=by
   intro a l k; simp only [Lk.oJ]; repeat' split
   all_goals simp
  repeat' split
  all_goals first | exact hb _ _ _ | simp
 | fieldAddr t x f =>
  exfalso; revert h; simp only [bZ]; repeat' split
  all_goals simp
 | field t x f =>
  exfalso; revert h; simp only [bZ]; repeat' split
  all_goals simp
 | indexAddr t x i =>
  exfalso; revert h; simp only [bZ,Lk.q8]; repeat' split
  all_goals simp
 | index t x i =>
  exfalso; revert h; simp only [bZ]; repeat' split
  all_goals simp
 | extract x i =>
  exfalso; revert h; simp only [bZ]; repeat' split
  all_goals simp
 | _=>simp [bZ] at h
structure Rb where
 r:Nat->Option (Nat×Nat)
 d:Option Ow
 v:Nat->Option Ow
def aaN (k d:Nat):Option Ow:=match ej d with | true=>some (.r k) | false=>match d with | 3=>some .fz | _=>none
def aaW (k d e c:Nat):Option Ow:=match d with | 5=>some (.n k e c) | 4=>some .fz | 3=>some .fz | _=>none
def Rb.f (a:Rb):Ow->Option Ow
 | .r r=>match a.r r with | some (k,d)=>aaN k d | none=>a.d
 | .n r e c=>match a.r r with | some (k,d)=>aaW k d e c | none=>a.d
 | .v k=>a.v k
 | .fz=>some .fz
 | .x=>some .x
theorem qU {d a:Nat} (h:nF d a=true):d=1\/(d=2/\ej a=true)\/(d=3/\(a=3\/a=4\/a=5))\/(d=4/\(a=4\/a=5))\/(d=5/\a=5):=by
 revert h; simp only [nF]; split
 ·simp
 ·intro h; simp [h]
 ·split<;>simp
 ·split<;>simp
 ·split<;>simp
 ·simp
theorem cP.relabel {a:Rb} {O O':OM} {r k d:Nat} {row:Row} {v:Value} {cs:List Value} (h:cP X O w r row v cs) (ha:ej row.ow=true->a.r r=some (k,d)) (hle:nF d row.ow=true)
  (hb:∀ g o,w.heap[g]? =some o->Q6 r row.ow (O g)->w'.heap[g]? =some o/\O' g=(O g).bind a.f):cP X O' w' k { row with ow:=d } v cs:=by
 obtain ⟨τ,xs,ow⟩:=row
 simp only at ha hle hb
 have no:(none:Option Ow).bind a.f=none:=rfl
 have fz:(some Ow.fz).bind a.f=some .fz:=rfl
 refine h.re hle (fun g o hg hi=> ?_) (fun e c g o hg hi=> ?_)
 ·obtain ⟨h1,h2⟩:=hb g o hg (.inl hi)
  refine ⟨h1,?_⟩
  rw [h2]
  simp only at hi
  cases gM:ej ow with
  | true =>
   have h3:dO r ow= .own (.r r):=by simp [dO,gM]
   rw [h3] at hi
   have hi:O g=some (.r r):=hi
   rw [hi]
   show In (dO k d) (a.f (.r r))
   simp only [Rb.f,ha gM]
   rcases qU hle with rfl | ⟨rfl,_⟩ | ⟨rfl,_⟩ | ⟨rfl,_⟩ | ⟨rfl,_⟩
   ·exact .inl rfl
   all_goals exact rfl
  | false =>
   have aca:ow≠4/\ow≠5:=by constructor<;>(rintro rfl; simp [ej] at gM)
   have h3:(ow=3/\dO r ow= .fz)\/(ow≠3/\dO r ow= .mT):=by
    by_cases h:ow=3
    ·subst h; exact .inl ⟨rfl,rfl⟩
    ·refine .inr ⟨h,?_⟩
     simp only [dO,gM]
     try (split<;>first | exact absurd rfl h | rfl)
   rcases h3 with ⟨rfl,h3⟩ | ⟨Wi,h3⟩
   ·have hi:O g=some .fz:=hi
    rw [hi,fz]
    rcases qU hle with rfl | ⟨_,h⟩ | ⟨rfl,_⟩ | ⟨_,h⟩ | ⟨_,h⟩
    ·exact .inr rfl
    ·rw [gM] at h; cases h
    ·exact rfl
    ·rcases h with h | h<;>cases h
    ·cases h
   ·rw [h3] at hi
    rcases qU hle with rfl | ⟨_,h⟩ | ⟨_,h⟩ | ⟨_,h⟩ | ⟨_,h⟩
    ·rcases hi with hi | hi<;>rw [hi]
     ·exact .inl rfl
     ·exact .inr rfl
    ·rw [gM] at h; cases h
    ·omega
    ·omega
    ·omega
 ·obtain ⟨h1,h2⟩:=hb g o hg (.inr ⟨e,c,hi⟩)
  refine ⟨h1,?_⟩
  rw [h2]
  simp only at hi
  by_cases h5:ow=5
  ·subst h5
   have hi:O g=some (.n r e c):=hi
   rw [hi]
   show In (dR k e c d) (a.f (.n r e c))
   simp only [Rb.f,ha rfl]
   rcases qU hle with rfl | ⟨rfl,_⟩ | ⟨rfl,_⟩ | ⟨rfl,_⟩ | ⟨rfl,_⟩
   ·exact .inl rfl
   ·exact .inl rfl
   all_goals exact rfl
  ·by_cases h43:ow=4\/ow=3
   ·have hi:O g=some .fz:=by rcases h43 with rfl | rfl<;>exact hi
    rw [hi,fz]
    rcases qU hle with rfl | ⟨rfl,_⟩ | ⟨rfl,_⟩ | ⟨rfl,_⟩ | ⟨rfl,h⟩
    ·exact .inr rfl
    ·exact .inr rfl
    ·exact rfl
    ·exact rfl
    ·exact absurd h h5
   ·have h3:dR r e c ow= .mT:=by
     simp only [dR]
     try (split<;>first | rfl | (exfalso; omega))
    rw [h3] at hi
    rcases qU hle with rfl | ⟨rfl,_⟩ | ⟨rfl,h⟩ | ⟨rfl,h⟩ | ⟨rfl,h⟩
    ·rcases hi with hi | hi<;>rw [hi]
     ·exact .inl rfl
     ·exact .inr rfl
    ·rcases hi with hi | hi<;>rw [hi]
     ·exact .inl rfl
     ·exact .inr rfl
    ·omega
    ·omega
    ·omega
theorem Hh {O O':OM} {k:Nat} {row:Row} {v:Value} {cs:List Value} (h:cP X O w k row v cs)
  (hf:∀ g o,w.heap[g]? =some o->Q6 k row.ow (O g)->w'.heap[g]? =some o/\O' g=O g):cP X O' w' k row v cs:=by
 refine ⟨h.top.re (c':=dO k row.ow) (fun g o hg hi=> ?_) id,fun e c ct he hc=> ?_⟩
 ·obtain ⟨h1,h2⟩:=hf g o hg (.inl hi); exact ⟨h1,h2▸hi⟩
 ·obtain ⟨u,hu,hr⟩:=h.rG e c ct he hc
  exact ⟨u,hu,hr.re (fun g o hg hi=>by obtain ⟨h1,h2⟩:=hf g o hg (.inr ⟨e,c,hi⟩); exact ⟨h1,h2▸hi⟩) id⟩
inductive lH (m:Lk) (γ:Gh):List AV->List Value->Prop
 | nil:lH m γ [] []
 | cons {x:AV} {v:Value} {l:List AV} {u:List Value}:bk m γ x v->lH m γ l u->lH m γ (x::l) (v::u)
structure S2 (X:Ctx) (g:ub) (cf:List AC) (cH:List (List Ct)) (γ:Gh) (w:World) (args:List Value):Prop where
 rel:Rel X (entry g cf cH).lk γ w
 top:∀ b,w.heap.size<=b->γ.O b=none
 args:lH (entry g cf cH).lk γ (rX g.am 0 cf).1 args
def LY (X:Ctx) (O:OM) (w:World) (md:Nat) (τ:Ty) (xs:List (El τ)) (v:Value) (ks:List Nat):Prop :=
 (xs=[]/\v= .slice none 0 0/\ks=[])\/∃ key cs,ks=[key]/\cP X O w key ⟨τ,xs,md⟩ v cs
def rJ (X:Ctx) (e0:Lk) (γ0:Gh) (K:List Nat) (O:OM) (w:World) (md:Nat):Rc->Value->List Nat->Prop
 | .c (.l τ xs),v,ks=>(rT md=true\/ks=[])/\LY X O w md τ xs v ks
 | .c .u,v,ks=>ks=[]/\v.oneCell'=true
 | .c ct,v,ks=>ks=[]/\v=gu ct
 | .m ct,v,ks=>ks=[]/\v.oneCell'=true/\CtV (fun g=>∃ r,r∉K/\MA r (O g)) w ct v
 | .al p j e c,v,ks=>ks=[]/\∃ row τ ys,j<64/\100000+p*64+j<200000/\e0.r (100000+p*64+j)=some row/\e<row.xs.length/\(row.cs e)[c]? =some (.l τ ys)/\(γ0.cv (100000+p*64+j))[e*sz row.τ+c]? =some v
 | .aw p j,v,ks=>ks=[]/\∃ row,j<64/\100000+p*64+j<200000/\e0.r (100000+p*64+j)=some row/\v=γ0.rv (100000+p*64+j)
 | .un,v,ks=>ks=[]/\v.oneCell'=true
inductive m6 (X:Ctx) (e0:Lk) (γ0:Gh) (K:List Nat) (O:OM) (w:World):List Nat->List Rc->List Value->List Nat->Prop
 | nil {ms:List Nat}:m6 X e0 γ0 K O w ms [] [] []
 | cons {ms:List Nat} {y:Rc} {v:Value} {k:List Nat} {ys:List Rc} {vs:List Value} {ks:List Nat}:rJ X e0 γ0 K O w (hd ms) y v k->m6 X e0 γ0 K O w (tl ms) ys vs ks ->
   m6 X e0 γ0 K O w ms (y::ys) (v::vs) (k++ks)
inductive qM (X:Ctx) (e0:Lk) (γ0:Gh) (K:List Nat) (O:OM) (w:World):List (List Nat)->List (Bool×List Rc)->List Value->List Nat->Prop
 | nil {ms:List (List Nat)}:qM X e0 γ0 K O w ms [] [] []
 | cons {ms:List (List Nat)} {b:Bool} {l:List Rc} {us:List Value} {v:Value} {k:List Nat} {ys:List (Bool×List Rc)} {vs:List Value} {ks:List Nat}:m6 X e0 γ0 K O w (nJ ms) l us k ->
   (b=true->v= .agg us.toArray)->(b=false->us=[v])->qM X e0 γ0 K O w (tl ms) ys vs ks->qM X e0 γ0 K O w ms ((b,l)::ys) (v::vs) (k++ks)
def vH (X:Ctx) (e0:Lk) (γ0:Gh) (K:List Nat) (O:OM) (w:World) (rl:List (List Nat)):RC->Value->List Nat->Prop
 | .u,v,ks=>ks=[]/\v= .tuple #[]
 | .c x,v,ks=>rJ X e0 γ0 K O w (hd (nJ rl)) x v ks
 | .a l,v,ks=>∃ us,v= .agg us.toArray/\m6 X e0 γ0 K O w (nJ rl) l us ks
 | .t l,v,ks=>∃ us,v= .tuple us.toArray/\qM X e0 γ0 K O w rl l us ks
 | .np l,v,ks=>∃ cv g cur e,1000<=cv/\v= .pointer (some ⟨g,0,none⟩)/\O g=some (.v cv)/\w.heap[g]? =some (.cells cur e (0,0))/\m6 X e0 γ0 K O w (nJ rl) l cur.toList ks
def te (X:Ctx) (γ0:Gh) (O:OM) (w:World) (key md:Nat) (y:Ct) (v:Value) (ks:List Nat):Prop:=match md with
 | 0=>ks=[]/\v=gu y/\(match y with | .u=>False | .l _ _=>False | _=>True)
 | 1=>ks=[]/\v=γ0.rv key
 | md=>match y with | .l τ xs=>rT md=true/\LY X O w md τ xs v ks | _=>False
inductive pH (X:Ctx) (γ0:Gh) (O:OM) (w:World):Nat->List Nat->List Ct->List Value->List Nat->Prop
 | nil {k:Nat} {ms:List Nat}:pH X γ0 O w k ms [] [] []
 | cons {k:Nat} {ms:List Nat} {y:Ct} {v:Value} {a:List Nat} {ys:List Ct} {vs:List Value} {ks:List Nat}:te X γ0 O w k (hd ms) y v a->pH X γ0 O w (k+1) (tl ms) ys vs ks ->
   pH X γ0 O w k ms (y::ys) (v::vs) (a++ks)
inductive wy (X:Ctx) (γ0:Gh) (O:OM) (w:World):Nat->List (List Nat)->List (List Ct)->List Nat->Prop
 | nil {k:Nat} {ms:List (List Nat)}:wy X γ0 O w k ms [] []
 | cons {k:Nat} {ms:List (List Nat)} {l:List Ct} {a:List Nat} {vo:List (List Ct)} {ks:List Nat} {cur:Array Value} {e:TypeId}:O (γ0.vb k)=some (.v k)->w.heap[γ0.vb k]? =some (.cells cur e (0,0)) ->
   pH X γ0 O w (300000+k*64) (nJ ms) l cur.toList a->wy X γ0 O w (k+1) (tl ms) vo ks->wy X γ0 O w k ms (l::vo) (a++ks)
inductive rM (X:Ctx) (γ0:Gh) (O:OM) (w:World):Nat->List AC->List Ct->List Nat->Prop
 | nil {p:Nat}:rM X γ0 O w p [] [] []
 | io {p:Nat} {τ:Ty} {xs xs':List (El τ)} {cs:List Value} {l:List AC} {ys:List Ct} {ks:List Nat}:cP X O w (200000+p*64) ⟨τ,xs',5⟩ (γ0.rv (200000+p*64)) cs->rM X γ0 O w (p+1) l ys ks ->
   rM X γ0 O w p (.io τ xs::l) (.l τ xs'::ys) ((200000+p*64)::ks)
 | skip {p:Nat} {x:AC} {l:List AC} {ys:List Ct} {ks:List Nat}:(∀ τ xs,x≠ .io τ xs)->rM X γ0 O w (p+1) l ys ks->rM X γ0 O w p (x::l) ys ks
def Fh (X:Ctx) (g:ub) (cf:List AC) (cH:List (List Ct)) (γ0:Gh) (w0:World) (cr:CR) (v:Value) (w:World):Prop :=
 ∃ O ka kb kc,Fr γ0.O w0 O w/\(ka++(kb++kc)).Nodup/\vH X (entry g cf cH).lk γ0 (ka++(kb++kc)) O w g.rl cr.res v ka/\wy X γ0 O w 0 g.vl cr.vo kb/\rM X γ0 O w 0 cf cr.io kc
def gx {α R:Type} (T:(α->Option R)->Option R):Prop:=∃ o:Option α,∀ k,T k=o.bind k
structure AL {R:Type} (X:Ctx) (g:ub) (f:FuncId) (F:zc R):Prop where
 FA:∀ cf cH,gx (F cf cH)
 ok:∀ (cf:List AC) (cH:List (List Ct)) (cr:CR),(∀ k,F cf cH k=k cr)->∀ (γ:Gh) (w:World) (args:List Value),S2 X g cf cH γ w args ->
  Calls X.P f args.toArray w fun e w'=>∃ v,e= .returned v/\Fh X g cf cH γ w cr v w'
def vt (P:Program) (f:FuncId):Prop:=∃ fn,P.funcs[f]? =some fn/\(fn.name == "runtime.NumGoroutine")=false/\fn.body.isNone=false
structure sM {R:Type} (X:Ctx) (E:Env R):Prop where
 fn:∀ f g,E.sg f=some g->AL X g f (E.fn f)/\vt X.P f
 FA:∀ f cf cH,gx (E.fn f cf cH)
def md (ms:List Nat) (i:Nat):Nat:=hd (ms.drop i)
def LB {α:Type} (ms:List (List α)) (i:Nat):List α:=nJ (ms.drop i)
theorem Kn {α:Type} (l:List α) (i:Nat):(tl l).drop i=l.drop (i+1):=by cases l<;>simp [tl]
theorem yJ (l:List Nat) (i:Nat):md (tl l) i=md l (i+1):=by simp only [md,Kn]
theorem Et {α:Type} (l:List (List α)) (i:Nat):LB (tl l) i=LB l (i+1):=by simp only [LB,Kn]
theorem wJ (l:List Nat):md l 0=hd l:=rfl
theorem GI {α:Type} (l:List (List α)):LB l 0=nJ l:=rfl
def tW (key:Nat):Ct->Cv
 | .u=> .un | .b x=> .b x | .i a n=> .i a n | .s x=> .s x | .l _ _=> .sw key
theorem AG (k w:Nat):∀ (ys:List Ct) (ms:List Nat) (j i:Nat),((oa k w ms j ys).1)[i]? =(ys[i]?).map (tW (k+j+i))
 | [],ms,j,i=>by simp [oa]
 | y::ys,ms,j,i=>by
  have ih:=AG k w ys (tl ms) (j+1)
  cases i with
  | zero=>cases y<;>simp [oa,tW]
  | succ i =>
   have:=ih i
   cases y<;>simp [oa,this,show k+(j+1)+i=k+j+(i+1) by omega]
theorem sH (k w:Nat):∀ (ys:List Ct) (ms:List Nat) (j:Nat),((oa k w ms j ys).1).length=ys.length
 | [],ms,j=>by simp [oa]
 | y::ys,ms,j=>by have ih:=sH k w ys (tl ms) (j+1); cases y<;>simp [oa,ih]
theorem w7 (k w:Nat):∀ (ys:List Ct) (ms:List Nat) (j:Nat) (key:Nat) (row:Row),(key,row)∈(oa k w ms j ys).2 ↔
  ∃ i τ xs,ys[i]? =some (.l τ xs)/\key=k+j+i/\row=⟨τ,xs,kd w (md ms i)⟩
 | [],ms,j,key,row=>by simp [oa]
 | y::ys,ms,j,key,row=>by
  have ih:=w7 k w ys (tl ms) (j+1) key row
  have rest:(∃ i τ xs,ys[i]? =some (.l τ xs)/\key=k+(j+1)+i/\row=⟨τ,xs,kd w (md (tl ms) i)⟩) ↔
    ∃ i τ xs,(y::ys)[i+1]? =some (.l τ xs)/\key=k+j+(i+1)/\row=⟨τ,xs,kd w (md ms (i+1))⟩:=by
   simp only [yJ,List.getElem?_cons_succ,show ∀ i,k+(j+1)+i=k+j+(i+1) by intro i; omega]
  have split:(∃ i τ xs,(y::ys)[i]? =some (.l τ xs)/\key=k+j+i/\row=⟨τ,xs,kd w (md ms i)⟩) ↔
    ((∃ τ xs,y= .l τ xs/\key=k+j/\row=⟨τ,xs,kd w (md ms 0)⟩) \/
    ∃ i τ xs,(y::ys)[i+1]? =some (.l τ xs)/\key=k+j+(i+1)/\row=⟨τ,xs,kd w (md ms (i+1))⟩):=by
   constructor
   ·rintro ⟨i,τ,xs,h1,h2,h3⟩
    cases i with
    | zero=>exact .inl ⟨τ,xs,by simpa using h1,h2,h3⟩
    | succ i=>exact .inr ⟨i,τ,xs,h1,h2,h3⟩
   ·rintro (⟨τ,xs,h1,h2,h3⟩ | ⟨i,τ,xs,h1,h2,h3⟩)
    ·exact ⟨0,τ,xs,by simp [h1],h2,h3⟩
    ·exact ⟨i+1,τ,xs,h1,h2,h3⟩
  rw [split,← rest,← ih]
  cases y with
  | l τ xs =>
   simp only [oa,zI,zG]
   constructor
   ·rintro (⟨h1,h2⟩ | h)
    ·refine .inl ⟨τ,xs,rfl,h1,?_⟩
     rw [h2]; simp [wJ]
    ·exact .inr h
   ·rintro (⟨τ',xs',h1,h2,h3⟩ | h)
    ·cases h1
     refine .inl ⟨h2,?_⟩
     rw [h3]; simp [wJ]
    ·exact .inr h
  | _=>simp [oa]
def acl:AC->List Ct
 | .c y=>[y] | .a ys=>ys | _=>[]
def Dv (m P:Nat):AC->AV
 | .c y=> .c (tW (100000+P*64) y)
 | .a ys=> .a (oa (100000+P*64) (kd 0 m) [] 0 ys).1
 | .p k=> .c (.pv k 0)
 | .f g ks=> .c (.fn g ks)
 | .al k c=> .c (.sw (300000+k*64+c))
 | .io _ _=> .c (.sw (200000+P*64))
def za (m P:Nat) (x:AC) (key:Nat) (row:Row):Prop :=
 (∃ j τ xs,(acl x)[j]? =some (.l τ xs)/\key=100000+P*64+j/\row=⟨τ,xs,kd 0 m⟩)\/∃ τ xs,x= .io τ xs/\key=200000+P*64/\row=⟨τ,xs,5⟩
theorem S3 (m n:Nat):kd (kd 0 m) n=kd 0 m:=by cases m<;>rfl
theorem C9 (am:List Nat) (p:Nat) (x:AC) (l:List AC):rX am p (x::l)=(Dv (hd am) p x::(rX (tl am) (p+1) l).1,
  (match x with
   | .c y=>(oa (100000+p*64) (kd 0 (hd am)) [] 0 [y]).2
   | .a ys=>(oa (100000+p*64) (kd 0 (hd am)) [] 0 ys).2
   | .io τ xs=>[(200000+p*64,⟨τ,xs,5⟩)]
   | _=>[])++(rX (tl am) (p+1) l).2):=by
 cases x with
 | c y =>
  simp only [rX]
  cases y<;>simp [oa,Dv,tW]
 | a ys=>simp only [rX,Dv]
 | _=>simp [rX,Dv]
theorem xc:∀ (cf:List AC) (am:List Nat) (p i:Nat),((rX am p cf).1)[i]? =(cf[i]?).map (Dv (md am i) (p+i))
 | [],am,p,i=>by simp [rX]
 | x::l,am,p,i=>by
  rw [C9]
  cases i with
  | zero=>simp [wJ]
  | succ i=>simp [xc l (tl am) (p+1) i,yJ,show p+1+i=p+(i+1) by omega]
theorem Bh:∀ (cf:List AC) (am:List Nat) (p:Nat) (key:Nat) (row:Row),(key,row)∈(rX am p cf).2↔∃ i x,cf[i]? =some x/\za (md am i) (p+i) x key row
 | [],am,p,key,row=>by simp [rX]
 | x::l,am,p,key,row=>by
  have ih:=Bh l (tl am) (p+1) key row
  have rest:(∃ i x,l[i]? =some x/\za (md (tl am) i) (p+1+i) x key row)↔∃ i y,(x::l)[i+1]? =some y/\za (md am (i+1)) (p+(i+1)) y key row:=by
   simp only [yJ,List.getElem?_cons_succ,show ∀ i,p+1+i=p+(i+1) by intro i; omega]
  have split:(∃ i y,(x::l)[i]? =some y/\za (md am i) (p+i) y key row)↔za (hd am) p x key row\/∃ i y,(x::l)[i+1]? =some y/\za (md am (i+1)) (p+(i+1)) y key row:=by
   constructor
   ·rintro ⟨i,y,h1,h2⟩
    cases i with
    | zero=>simp only [List.getElem?_cons_zero,zA] at h1; subst h1; exact .inl h2
    | succ i=>exact .inr ⟨i,y,h1,h2⟩
   ·rintro (h | ⟨i,y,h1,h2⟩)
    ·exact ⟨0,x,rfl,h⟩
    ·exact ⟨i+1,y,h1,h2⟩
  rw [split,← rest,← ih,C9]
  simp only [zH]
  refine or_congr ?_ Iff.rfl
  cases x with
  | c y=>simp only [w7,S3,za,acl]; simp
  | a ys=>simp only [w7,S3,za,acl]; simp
  | io τ xs =>
   simp only [za,acl,zS,zG]
   constructor
   ·rintro ⟨h1,h2⟩; exact .inr ⟨τ,xs,rfl,h1,h2⟩
   ·rintro (⟨j,_,_,h,_⟩ | ⟨_,_,h0,h1,h2⟩)
    ·simp at h
    ·cases h0; exact ⟨h1,h2⟩
  | _=>simp [za,acl]
theorem Dt (k:Nat) (ms:List (List Nat)) (l:List Ct) (cH:List (List Ct)):BL k ms (l::cH) =
  ((k,(oa (300000+k*64) 0 (nJ ms) 0 l).1)::(BL (k+1) (tl ms) cH).1,(oa (300000+k*64) 0 (nJ ms) 0 l).2++(BL (k+1) (tl ms) cH).2):=rfl
theorem Be:∀ (cH:List (List Ct)) (vl:List (List Nat)) (k:Nat) (key:Nat) (row:Row),(key,row)∈(BL k vl cH).2 ↔
  ∃ i l j τ xs,cH[i]? =some l/\l[j]? =some (.l τ xs)/\key=300000+(k+i)*64+j/\row=⟨τ,xs,kd 0 (md (LB vl i) j)⟩
 | [],vl,k,key,row=>by simp [BL]
 | x::cH,vl,k,key,row=>by
  have ih:=Be cH (tl vl) (k+1) key row
  rw [Dt,zH,ih,w7]
  constructor
  ·rintro (⟨j,τ,xs,h1,h2,h3⟩ | ⟨i,l,j,τ,xs,h1,h2,h3,h4⟩)
   ·exact ⟨0,x,j,τ,xs,rfl,h1,by omega,h3⟩
   ·exact ⟨i+1,l,j,τ,xs,by simpa using h1,h2,by omega,by rw [h4,Et]⟩
  ·rintro ⟨i,l,j,τ,xs,h1,h2,h3,h4⟩
   cases i with
   | zero=>simp only [List.getElem?_cons_zero,zA] at h1; subst h1; exact .inl ⟨j,τ,xs,h2,by omega,h4⟩
   | succ i=>exact .inr ⟨i,l,j,τ,xs,by simpa using h1,h2,by omega,by rw [h4,Et]⟩
theorem Nq:∀ (cH:List (List Ct)) (vl:List (List Nat)) (k n:Nat),lk (BL k vl cH).1 n=if n<k then none else (cH[n-k]?).map fun l=>(oa (300000+n*64) 0 (LB vl (n-k)) 0 l).1
 | [],vl,k,n=>by simp [BL,lk]
 | x::cH,vl,k,n=>by
  rw [Dt]
  simp only [lk,Nq cH (tl vl) (k+1) n]
  cases h:Nat.beq k n with
  | true=>have:=aG h; subst this; simp [GI]
  | false =>
   have cR:k≠n:=by rintro rfl; rw [Nat.beq_refl] at h; cases h
   simp only
   by_cases h1:n<k
   ·rw [if_pos h1,if_pos (by omega)]
   ·rw [if_neg h1,if_neg (by omega)]
    obtain ⟨d,rfl⟩:∃ d,n=k+1+d:=⟨n-k-1,by omega⟩
    simp [Et,show k+1+d-k=d+1 by omega,show k+1+d-(k+1)=d by omega]
theorem JN (g:ub) (cf:List AC) (cH:List (List Ct)) (k:Nat):(entry g cf cH).lk.v k=(cH[k]?).map fun l=>(oa (300000+k*64) 0 (LB g.vl k) 0 l).1:=by
 show lk (BL 0 g.vl cH).1 k=_
 rw [Nq]; simp
theorem G8 (g:ub) (cf:List AC) (cH:List (List Ct)):(entry g cf cH).rs=(rX g.am 0 cf).2++(BL 0 g.vl cH).2:=rfl
theorem JL {g:ub} {cf:List AC} {cH:List (List Ct)} {key:Nat} {row:Row} (h:(entry g cf cH).lk.r key=some row) :
  (∃ p x,cf[p]? =some x/\za (md g.am p) p x key row)\/∃ i l j τ xs,cH[i]? =some l/\l[j]? =some (.l τ xs)/\key=300000+i*64+j/\row=⟨τ,xs,kd 0 (md (LB g.vl i) j)⟩:=by
 have h:lk (entry g cf cH).rs key=some row:=h
 have:=cO h
 rw [G8,zH,Bh,Be] at this
 simpa using this
theorem nW {α:Type} {l:List (Nat×α)} {k:Nat} {v:α} (h:(k,v)∈l):∃ u,lk l k=some u:=by
 cases hl:lk l k with
 | some u=>exact ⟨u,rfl⟩
 | none=>exact absurd (mem_keys h) (cG.1 hl)
theorem tR {g:ub} {cf:List AC} {cH:List (List Ct)} {key:Nat} {row:Row} (h:(∃ p x,cf[p]? =some x/\za (md g.am p) p x key row)\/∃ i l j τ xs,cH[i]? =some l/\l[j]? =some (.l τ xs)/\key=300000+i*64+j/\row=⟨τ,xs,kd 0 (md (LB g.vl i) j)⟩) :
  ∃ u,(entry g cf cH).lk.r key=some u:=by
 have:(key,row)∈(entry g cf cH).rs:=by
  rw [G8,zH,Bh,Be]
  simpa using h
 exact nW this
def vI (key d:Nat):Nat->List Cv->List (Nat×(Nat×Nat))
 | _,[]=>[]
 | j,.sw r::l=>(r,(key+j,d))::vI key d (j+1) l
 | j,_::l=>vI key d (j+1) l
def H0 (n:Nat):Bool:=match n with | 4=>true | 5=>true | _=>false
def Mn (n:Nat):Bool:=match n with | 9=>true | _=>false
def M8:AV->List Cv
 | .c x=>[x] | .a cs=>cs | _=>[]
def uO:List Nat->Nat->List AV->List (Nat×(Nat×Nat))
 | _,_,[]=>[]
 | am,P,v::l=>(match H0 (hd am) with | true=>vI (100000+P*64) (hd am) 0 (M8 v) | false=>[])++uO (tl am) (P+1) l
def Fx:List Nat->Nat->List AV->List (Nat×(Nat×Nat))
 | _,_,[]=>[]
 | am,P,v::l=>(match Mn (hd am) with | true=>vI (200000+P*64) 5 0 (M8 v) | false=>[])++Fx (tl am) (P+1) l
def zq (key:Nat):List Nat->Nat->List Cv->List (Nat×(Nat×Nat))
 | _,_,[]=>[]
 | ms,j,c::l=>(match hd ms with | 0=>[] | 1=>[] | w=>(match c with | .sw r=>[(r,(key+j,w))] | _=>[]))++zq key (tl ms) (j+1) l
def nV (m:Lk):Nat->List (List Nat)->List Nat->List (Nat×(Nat×Nat))
 | _,_,[]=>[]
 | k,vl,v::l=>(match m.v v with | some cs=>zq (300000+k*64) (nJ vl) 0 cs | none=>[])++nV m (k+1) (tl vl) l
theorem N8 {n:Nat} (h:n≠9):Mn n=false:=by
 unfold Mn; split
 ·exact absurd rfl h
 ·rfl
theorem bA {α:Type} (a b:List (Nat×α)):keys (a++b)=keys a++keys b:=by simp [keys_eq]
theorem KG (key d:Nat):∀ (cs:List Cv) (j i r:Nat),cs[i]? =some (.sw r)->(r,(key+(j+i),d))∈vI key d j cs
 | [],j,i,r,h=>by simp at h
 | c::cs,j,i,r,h=>by
  cases i with
  | zero=>simp only [List.getElem?_cons_zero,zA] at h; subst h; simp [vI]
  | succ i =>
   have:=KG key d cs (j+1) i r (by simpa using h)
   rw [show j+1+i=j+(i+1) by omega] at this
   cases c<;>simp only [vI]<;>first | exact zJ _ this | exact this
def Pq (m:Lk) (d:Nat) (c:Cv):Prop:=(∃ r row,c= .sw r/\m.r r=some row/\nF d row.ow=true)\/(∃ τ,c= .nl τ)\/(∃ b,c= .b b)\/(∃ k n,c= .i k n)\/∃ s,c= .s s
theorem yc {d:Nat}:∀ {cs:List Cv} {g:List Nat},m.owned d cs=some g->(∀ key k j,keys (vI key k j cs)=g)/\(∀ c∈cs,Pq m d c/\∀ r,c= .sw r->r∈g)/\∀ r∈g,∃ row,m.r r=some row/\nF d row.ow=true
 | [],g,h=>by simp only [Lk.owned,zA] at h; subst h; simp [vI,keys]
 | c::cs,g,h=>by
  have flat:m.owned d cs=some g->(∀ r,c≠ .sw r)->Pq m d c->(∀ key k j,vI key k j (c::cs)=vI key k (j+1) cs) ->
    (∀ key k j,keys (vI key k j (c::cs))=g)/\(∀ x∈c::cs,Pq m d x/\∀ r,x= .sw r->r∈g)/\∀ r∈g,∃ row,m.r r=some row/\nF d row.ow=true:=fun h cR ho hh=>by
   obtain ⟨h1,h2,h3⟩:=yc h
   refine ⟨fun key k j=>by rw [hh]; exact h1 _ _ _,fun x hx=> ?_,h3⟩
   rcases zI.1 hx with rfl | hx
   ·exact ⟨ho,fun r e=>absurd e (cR r)⟩
   ·exact h2 x hx
  cases c with
  | sw r =>
   simp only [Lk.owned] at h
   cases hr:m.r r with
   | none=>simp [hr] at h
   | some row =>
    cases ho:m.owned d cs with
    | none=>simp [hr,ho] at h
    | some k =>
     cases hle:nF d row.ow with
     | false=>simp [hr,ho,hle] at h
     | true =>
      simp only [hr,ho,hle,zA] at h; subst h
      obtain ⟨h1,h2,h3⟩:=yc ho
      refine ⟨fun key k' j=>by simp [vI,keys,h1],fun x hx=> ?_,fun s hs=>(zI.1 hs).elim (fun e=>e▸⟨row,hr,hle⟩) (h3 s)⟩
      rcases zI.1 hx with rfl | hx
      ·exact ⟨.inl ⟨r,row,rfl,hr,hle⟩,fun s e=>by cases e; simp⟩
      ·exact ⟨(h2 x hx).1,fun s e=>zJ _ ((h2 x hx).2 s e)⟩
  | nl τ=>exact flat (by simpa [Lk.owned] using h) (by simp) (.inr (.inl ⟨τ,rfl⟩)) (fun _ _ _=>rfl)
  | b x=>exact flat (by simpa [Lk.owned] using h) (by simp) (.inr (.inr (.inl ⟨x,rfl⟩))) (fun _ _ _=>rfl)
  | i k n=>exact flat (by simpa [Lk.owned] using h) (by simp) (.inr (.inr (.inr (.inl ⟨k,n,rfl⟩)))) (fun _ _ _=>rfl)
  | s x=>exact flat (by simpa [Lk.owned] using h) (by simp) (.inr (.inr (.inr (.inr ⟨x,rfl⟩)))) (fun _ _ _=>rfl)
  | _=>simp [Lk.owned] at h
def V9 (v:AV) (x:AC) (cs:List Cv) (ys:List Ct):Prop:=(v= .a cs/\x= .a ys)\/∃ c y,v= .c c/\x= .c y/\cs=[c]/\ys=[y]
def ZL (m:Lk) (G:Nat->Nat->Nat->Prop) (F B:Nat->Prop) (I:Prop) (d P:Nat) (cs:List Cv) (ys ys':List Ct):Prop :=
 (d=0/\ys'=ys/\(∀ c∈cs,∀ r,c.row=some r->B r)/\(I->m.ME cs=true))\/(d=7/\ys'=ys.map mL) \/
 (rT d=true/\ys'=ys/\(∀ c∈cs,Pq m d c)/\(d=3->∀ c∈cs,∀ r,c= .sw r->F r)/\(d≠3->∀ j r,cs[j]? =some (.sw r)->G r (100000+P*64+j) d)/\(I->d=3))
inductive AM (m:Lk) (κ:List Nat) (G:Nat->Nat->Nat->Prop) (F B:Nat->Prop) (I:Prop) (d P:Nat):AV->AC->Prop
 | ptr {k i:Nat}:¬ I->κ[i]? =some k->AM m κ G F B I d P (.c (.pv k 0)) (.p i)
 | fn {f:Nat} {caps ks:List Nat}:¬ I->ks.length=caps.length->(∀ (i k:Nat),ks[i]? =some k->∃ v,caps[i]? =some v/\κ[k]? =some v)->AM m κ G F B I d P (.c (.fn f caps)) (.f f ks)
 | val {v:AV} {x:AC} {cs:List Cv} {ys ys':List Ct}:V9 v x cs ys'->cs.length<=63->m.iw cs=some ys->ZL m G F B I d P cs ys ys'->AM m κ G F B I d P v x
 | io {r:Nat} {τ:Ty} {xs:List (El τ)}:¬ I->d=9->m.r r=some ⟨τ,xs,5⟩->G r (200000+P*64) 5->AM m κ G F B I d P (.c (.sw r)) (.io τ xs)
 | al {r v c:Nat} {cs:List Cv}:¬ I->d=8->κ[0]? =some v->m.v v=some cs->cs[c]? =some (.sw r)->AM m κ G F B I d P (.c (.sw r)) (.al 0 c)
theorem AM.mono {κ κ':List Nat} {G G':Nat->Nat->Nat->Prop} {F F' B B':Nat->Prop} {I I':Prop} {d P:Nat} {v:AV} {x:AC} (h:AM m κ G F B I d P v x) (hκ:∀ (i k:Nat),κ[i]? =some k->κ'[i]? =some k)
  (hG:∀ r k d,G r k d->G' r k d) (hF:∀ r,F r->F' r) (hB:∀ r,B r->B' r) (hI:I'->I):AM m κ' G' F' B' I' d P v x:=by
 cases h with
 | ptr h0 h1=>exact .ptr (fun h=>h0 (hI h)) (hκ _ _ h1)
 | fn h0 h1 h2=>exact .fn (fun h=>h0 (hI h)) h1 fun i k hk=>let ⟨v,h3,h4⟩:=h2 i k hk; ⟨v,h3,hκ _ _ h4⟩
 | val h1 h2 h3 h4 =>
  refine .val h1 h2 h3 ?_
  rcases h4 with ⟨a,b,c,e⟩ | h | ⟨a,b,c,e,f,g⟩
  ·exact .inl ⟨a,b,fun x hx r hr=>hB r (c x hx r hr),fun h=>e (hI h)⟩
  ·exact .inr (.inl h)
  ·exact .inr (.inr ⟨a,b,c,fun h x hx r hr=>hF r (e h x hx r hr),fun h j r hr=>hG _ _ _ (f h j r hr),fun h=>g (hI h)⟩)
 | io h0 h1 h2 h3=>exact .io (fun h=>h0 (hI h)) h1 h2 (hG _ _ _ h3)
 | al h0 h8 h1 h2 h3=>exact .al (fun h=>h0 (hI h)) h8 (hκ _ _ h1) h2 h3
theorem sA {v:Nat}:∀ {l:List Nat} {n k:Nat},mZ v n l=some k->n<=k/\l[k-n]? =some v
 | [],n,k,h=>by simp [mZ] at h
 | x::l,n,k,h=>by
  simp only [mZ] at h
  cases hx:Nat.beq x v with
  | true=>rw [hx] at h; cases h; have:=aG hx; simp [this]
  | false =>
   rw [hx] at h
   obtain ⟨h1,h2⟩:=sA h
   refine ⟨by omega,?_⟩
   rw [show k-n=(k-(n+1))+1 by omega]; simpa using h2
theorem tK {v:Nat}:∀ {l:List Nat} {n:Nat},mZ v n l=none->v∉l
 | [],n,_=>by simp
 | x::l,n,h=>by
  simp only [mZ] at h
  cases hx:Nat.beq x v with
  | true=>rw [hx] at h; cases h
  | false =>
   rw [hx] at h
   simp only [zI,not_or]
   exact ⟨(by rintro rfl; rw [Nat.beq_refl] at hx; cases hx),tK h⟩
theorem Kj {κ:List Nat} {v k:Nat} {κ':List Nat} (h:LM κ v=(k,κ')):κ'[k]? =some v/\(∀ (i x:Nat),κ[i]? =some x->κ'[i]? =some x)/\(κ.Nodup->κ'.Nodup):=by
 simp only [LM] at h
 cases hi:mZ v 0 κ with
 | some j =>
  rw [hi] at h; cases h
  exact ⟨by simpa using (sA hi).2,fun _ _ h=>h,id⟩
 | none =>
  rw [hi] at h; cases h
  refine ⟨by simp,fun i x hx=> ?_,fun hn=> ?_⟩
  ·have:=(zU.1 hx).1
   rw [List.getElem?_append_left this]; exact hx
  ·rw [List.nodup_append]
   refine ⟨hn,by simp,?_⟩
   intro a ha b hb
   simp at hb; subst hb
   rintro rfl; exact tK hi ha
theorem F3:∀ {vs κ ks κ':List Nat},Ae κ vs=(ks,κ')->ks.length=vs.length/\(∀ (i k:Nat),ks[i]? =some k->∃ v,vs[i]? =some v/\κ'[k]? =some v)/\(∀ (i x:Nat),κ[i]? =some x->κ'[i]? =some x)/\(κ.Nodup->κ'.Nodup)
 | [],κ,ks,κ',h=>by simp only [Ae,zG] at h; obtain ⟨rfl,rfl⟩:=h; simp
 | v::vs,κ,ks,κ',h=>by
  simp only [Ae] at h
  cases h1:LM κ v with
  | mk k κ1 =>
   cases h2:Ae κ1 vs with
   | mk ks2 κ2 =>
    simp only [h1,h2,zG] at h
    obtain ⟨rfl,rfl⟩:=h
    obtain ⟨a1,a2,a3⟩:=Kj h1
    obtain ⟨b1,b2,b3,b4⟩:=F3 h2
    refine ⟨by simp [b1],fun i k hk=> ?_,fun i x hx=>b3 _ _ (a2 _ _ hx),fun hn=>b4 (a3 hn)⟩
    cases i with
    | zero=>simp only [List.getElem?_cons_zero,zA] at hk; subst hk; exact ⟨v,rfl,b3 _ _ a1⟩
    | succ i=>simpa using b2 i k (by simpa using hk)
theorem DW {r:Nat}:∀ {cs:List Cv} {n c:Nat},wX r n cs=some c->n<=c/\cs[c-n]? =some (.sw r)
 | [],n,c,h=>by simp [wX] at h
 | x::cs,n,c,h=>by
  have rest:wX r (n+1) cs=some c->n<=c/\(x::cs)[c-n]? =some (.sw r):=fun h=>by
   obtain ⟨h1,h2⟩:=DW h
   refine ⟨by omega,?_⟩
   rw [show c-n=(c-(n+1))+1 by omega]; simpa using h2
  cases x with
  | sw s =>
   simp only [wX] at h
   cases hs:Nat.beq s r with
   | true=>rw [hs] at h; cases h; have:=aG hs; simp [this]
   | false=>rw [hs] at h; exact rest h
  | _=>exact rest (by simpa [wX] using h)
theorem Q3 {x:Cv} {y:Ct} (h:m.ct x=some y):m.iw [x]=some [y]:=by simp [Lk.iw,h]
theorem I1 (l:List Ct):rW mL l=l.map mL:=wj _ _
structure Ke (m:Lk) (am:List Nat) (P:Nat) (ja:List AV) (κ0:List Nat) (ar:AR):Prop where
 len:ar.cf.length=ja.length
 pre:∀ (i k:Nat),κ0[i]? =some k->ar.κ[i]? =some k
 nd:κ0.Nodup->ar.κ.Nodup
 gone:keys (uO am P ja)=ar.gone
 io:keys (Fx am P ja)=ar.io
 arg:∀ i v,ja[i]? =some v->∃ x,ar.cf[i]? =some x/\AM m ar.κ (fun r k d=>(r,(k,d))∈uO am P ja++Fx am P ja) (·∈ar.fz) (·∈ar.mT) (ar.ly=true) (md am i) (P+i) v x
 W8:ar.ly=true->∀ r∈ar.mT,∀ row,m.r r=some row->ej row.ow=false
 W3:ar.ly=true->ar.κ=κ0
 Wf:∀ r∈ar.fz,∃ row,m.r r=some row/\nF 3 row.ow=true
theorem Bk:∀ {cs:List Cv},m.ME cs=true->∀ r∈Eu cs,∀ row,m.r r=some row->ej row.ow=false
 | [],_,r,h=>by simp [Eu] at h
 | x::cs,h,r,hr=>by
  simp only [Lk.ME] at h
  cases hx:m.LG x with
  | false=>rw [hx] at h; cases h
  | true =>
   rw [hx] at h
   simp only [Eu] at hr
   cases bo:x.row with
   | none=>rw [bo] at hr; exact Bk h r hr
   | some s =>
    rw [bo] at hr
    rcases zI.1 hr with rfl | hr
    ·intro row hm
     simp only [Lk.LG,bo,hm] at hx
     revert hx; split<;>simp_all [ej]
    ·exact Bk h r hr
theorem sX:∀ (ja:List AV) (am:List Nat) (κ0:List Nat) (P:Nat) (ar:AR),m.args am ja κ0=some ar->Ke m am P ja κ0 ar
 | [],am,κ0,P,ar,h=>by
  simp only [Lk.args,zA] at h; subst h
  exact ⟨rfl,fun _ _ h=>h,id,rfl,rfl,fun i v h=>by simp at h,fun _ r h=>by simp at h,fun _=>rfl,fun r h=>by simp at h⟩
 | v::l,am,κ0,P,ar,h=>by
  have cons:∀ (κ1:List Nat) (x:AC) (g io fz mT:List Nat) (b:Bool),tf x g io fz mT b (m.args (tl am) l κ1)=some ar->(∀ (i k:Nat),κ0[i]? =some k->κ1[i]? =some k)->(κ0.Nodup->κ1.Nodup) ->
    keys (match H0 (hd am) with | true=>vI (100000+P*64) (hd am) 0 (M8 v) | false=>[])=g->keys (match Mn (hd am) with | true=>vI (200000+P*64) 5 0 (M8 v) | false=>[])=io ->
    AM m κ1 (fun r k d=>(r,(k,d))∈(match H0 (hd am) with | true=>vI (100000+P*64) (hd am) 0 (M8 v) | false=>[])++(match Mn (hd am) with | true=>vI (200000+P*64) 5 0 (M8 v) | false=>[])) (·∈fz) (·∈mT) (b=true) (hd am) P v x ->
    (b=true->(∀ r∈mT,∀ row,m.r r=some row->ej row.ow=false)/\κ1=κ0)->(∀ r∈fz,∃ row,m.r r=some row/\nF 3 row.ow=true)->Ke m am P (v::l) κ0 ar:=by
   intro κ1 x g io fz mT b hc h1 h2 h3 h4 h5 h6 h7
   cases hq:m.args (tl am) l κ1 with
   | none=>simp [hq,tf] at hc
   | some q =>
    simp only [hq,tf,zA] at hc; subst hc
    have ih:=sX l (tl am) κ1 (P+1) q hq
    refine ⟨by simp [ih.len],fun i k hk=>ih.pre _ _ (h1 _ _ hk),fun hn=>ih.nd (h2 hn),?_,?_,fun i u hu=> ?_,fun hi r hr row hm=> ?_,fun hi=> ?_,fun r hr=>(zH.1 hr).elim (h7 r) (ih.Wf r)⟩
    ·simp only [uO,bA,h3,ih.gone]
    ·simp only [Fx,bA,h4,ih.io]
    ·cases i with
     | zero =>
      simp only [List.getElem?_cons_zero,zA] at hu; subst hu
      refine ⟨x,rfl,h5.mono ih.pre (fun r k d hg=> ?_) (fun r hr=>List.mem_append_left _ hr) (fun r hr=>List.mem_append_left _ hr) (fun h=>by cases b<;>simp_all)⟩
      simp only [uO,Fx,zH] at hg ⊢
      rcases hg with hg | hg
      ·exact .inl (.inl hg)
      ·exact .inr (.inl hg)
     | succ i =>
      obtain ⟨y,hy,hr⟩:=ih.arg i u (by simpa using hu)
      refine ⟨y,by simpa using hy,?_⟩
      rw [← yJ,show P+(i+1)=P+1+i by omega]
      refine hr.mono (fun _ _ h=>h) (fun r k d hg=> ?_) (fun r hr=>List.mem_append_right _ hr) (fun r hr=>List.mem_append_right _ hr) (fun h=>by cases b<;>simp_all)
      simp only [uO,Fx,zH] at hg ⊢
      rcases hg with hg | hg
      ·exact .inl (.inr hg)
      ·exact .inr (.inr hg)
    ·have hb:b=true/\q.ly=true:=by cases b<;>simp_all
     rcases zH.1 hr with hr | hr
     ·exact (h6 hb.1).1 r hr row hm
     ·exact ih.W8 hb.2 r hr row hm
    ·have hb:b=true/\q.ly=true:=by cases b<;>simp_all
     exact (ih.W3 hb.2).trans (h6 hb.1).2
  have byv:∀ (cs:List Cv) (ys:List Ct) (x:AC),M8 v=cs->cs.length<=63->m.iw cs=some ys->(∀ ys',(ys'=ys/\V9 v x cs ys')\/(ys'=ys.map mL/\V9 v (GX x) cs ys')\/True)->V9 v x cs ys->V9 v (GX x) cs (ys.map mL)->Mn (hd am)=false ->
    m.Ps (hd am) cs x (m.args (tl am) l κ0)=some ar->Ke m am P (v::l) κ0 ar:=by
   intro cs ys x Ya hlen MJ _ HB MK h9 h
   simp only [Lk.Ps] at h
   revert h; split
   ·rename_i h0
    intro h
    refine cons κ0 x [] [] [] (Eu cs) (m.ME cs) h (fun _ _ h=>h) id (by rw [h0]; rfl) (by rw [h0]; rfl) (.val HB hlen MJ (.inl ⟨h0,rfl,fun c hc r hr=> ?_,id⟩)) (fun h=>⟨Bk h,rfl⟩) (by simp)
    have:∀ (l:List Cv),c∈l->r∈Eu l:=by
     intro l
     induction l with
     | nil=>simp
     | cons a l ih =>
      intro hm
      simp only [Eu]
      rcases zI.1 hm with rfl | hm
      ·rw [hr]; simp
      ·cases a.row with
       | some s=>exact zJ _ (ih hm)
       | none=>exact ih hm
    exact this cs hc
   ·rename_i h0
    intro h
    exact cons κ0 (GX x) [] [] [] [] true h (fun _ _ h=>h) id (by rw [h0]; rfl) (by rw [h0]; rfl) (.val MK hlen MJ (.inr (.inl ⟨h0,rfl⟩))) (fun _=>⟨by simp,rfl⟩) (by simp)
   ·rename_i h0 h7
    cases hk:rT (hd am) with
    | false=>simp [hk]
    | true =>
     cases ho:m.owned (hd am) cs with
     | none=>simp [hk,ho]
     | some g =>
      simp only [hk,ho]
      obtain ⟨o1,o2,o3⟩:=yc ho
      have Yg:hd am=3\/hd am=4\/hd am=5:=by revert hk; simp only [rT]; split<;>simp_all
      split
      ·rename_i h3
       intro h
       refine cons κ0 x [] [] g [] true h (fun _ _ h=>h) id (by rw [h3]; rfl) (by rw [h3]; rfl) (.val HB hlen MJ (.inr (.inr ⟨hk,rfl,fun c hc=>(o2 c hc).1,fun _ c hc r hr=>(o2 c hc).2 r hr,fun h=>absurd h3 h,fun _=>h3⟩))) (fun _=>⟨by simp,rfl⟩) (fun r hr=>by have:=o3 r hr; rwa [h3] at this)
      ·rename_i h3
       intro h
       have Zq:H0 (hd am)=true:=by rcases Yg with h | h | h<;>rw [h] at h3 ⊢<;>first | rfl | exact absurd rfl h3
       refine cons κ0 x g [] [] [] false h (fun _ _ h=>h) id (by simp only [Zq,Ya]; exact o1 _ _ _) (by simp only [h9]; rfl) (.val HB hlen MJ (.inr (.inr ⟨hk,rfl,fun c hc=>(o2 c hc).1,fun h=>absurd h h3,fun _ j r hr=> ?_,fun h=>by cases h⟩))) (fun h=>by cases h) (by simp)
       simp only [Zq,Ya,zH]
       left
       have:=KG (100000+P*64) (hd am) cs 0 j r hr
       rwa [Nat.zero_add] at this
  have none1:∀ (x:Cv),(∀ r,x≠ .sw r)->keys (match H0 (hd am) with | true=>vI (100000+P*64) (hd am) 0 [x] | false=>[])=[]/\keys (match Mn (hd am) with | true=>vI (200000+P*64) 5 0 [x] | false=>[])=[]:=by
   intro x hx
   have:∀ key d,vI key d 0 [x]=[]:=by intro key d; cases x<;>first | rfl | exact absurd rfl (hx _)
   constructor<;>split<;>simp [this,keys]
  have cell:∀ x,v= .c x->(∀ k,x≠ .pv k 0)->(∀ f caps,x≠ .fn f caps)->Ke m am P (v::l) κ0 ar:=by
   rintro x rfl hpv Py
   have h:m.Ur (hd am) x κ0 (m.args (tl am) l κ0)=some ar:=by
    revert h; cases x<;>first | exact absurd rfl (Py _ _) | (simp only [Lk.args]; exact id) | skip
   simp only [Lk.Ur,Lk.Xs,Lk.Xt] at h
   revert h; split
   ·rename_i h9
    split
    ·rename_i r
     cases hr:m.r r with
     | none=>simp
     | some row =>
      obtain ⟨τ,xs,ow⟩:=row
      cases h5:Nat.beq ow 5 with
      | false=>simp [h5]
      | true =>
       simp only [h5]
       intro h
       have:=aG h5; subst this
       refine cons κ0 _ [] [r] [] [] false h (fun _ _ h=>h) id (by rw [h9]; rfl) (by rw [h9]; rfl) (.io (by simp) h9 hr ?_) (fun h=>by cases h) (by simp)
       rw [h9]; simp [H0,Mn,vI,M8]
    ·simp
   ·rename_i h8
    split
    ·rename_i r v κ'
     cases hv:m.v v with
     | none=>simp
     | some cs =>
      cases hf:wX r 0 cs with
      | none=>simp [hf]
      | some c =>
       simp only [hf]
       intro h
       have:=(DW hf).2
       refine cons _ _ [] [] [] [] false h (fun _ _ h=>h) id (by rw [h8]; rfl) (by rw [h8]; rfl) (.al (by simp) h8 (v:=v) rfl hv (by simpa using this)) (fun h=>by cases h) (by simp)
    ·simp
   ·rename_i h9 h8
    cases de:m.ct x with
    | none=>simp
    | some y =>
     simp only
     intro h
     have XR:Mn (hd am)=false:=N8 h9
     exact byv [x] [y] (.c y) rfl (by simp) (Q3 de) (fun _=> .inr (.inr trivial)) (.inr ⟨x,y,rfl,rfl,rfl,rfl⟩) (.inr ⟨x,mL y,rfl,rfl,rfl,rfl⟩) XR h
  cases v with
  | c x =>
   cases x with
   | pv k c =>
    cases c with
    | zero =>
     simp only [Lk.args] at h
     cases ha:LM κ0 k with
     | mk i κ1 =>
      simp only [ha] at h
      obtain ⟨a1,a2,a3⟩:=Kj ha
      obtain ⟨n1,n2⟩:=none1 (.pv k 0) (by simp)
      exact cons κ1 _ [] [] [] [] false h a2 a3 n1 n2 (.ptr (by simp) a1) (fun h=>by cases h) (by simp)
    | succ c=>exact cell _ rfl (by simp) (by simp)
   | fn f caps =>
    simp only [Lk.args] at h
    cases ha:Ae κ0 caps with
    | mk ks κ1 =>
     simp only [ha] at h
     obtain ⟨a1,a2,a3,a4⟩:=F3 ha
     obtain ⟨n1,n2⟩:=none1 (.fn f caps) (by simp)
     exact cons κ1 _ [] [] [] [] false h a3 a4 n1 n2 (.fn (by simp) a1 a2) (fun h=>by cases h) (by simp)
   | _=>exact cell _ rfl (by simp) (by simp)
  | a cs =>
   simp only [Lk.args] at h
   cases hb:Nat.ble cs.length 63 with
   | false=>simp [hb] at h
   | true =>
    cases hc:m.iw cs with
    | none=>simp [hb,hc] at h
    | some ys =>
     simp only [hb,hc] at h
     by_cases h9:hd am=9
     ·rw [h9] at h; simp [Lk.Ps,rT] at h
     ·have XR:Mn (hd am)=false:=N8 h9
      exact byv cs ys (.a ys) rfl (zQ hb) hc (fun _=> .inr (.inr trivial)) (.inl ⟨rfl,rfl⟩) (.inl ⟨rfl,by simp [GX,I1]⟩) XR h
  | _=>simp [Lk.args] at h
theorem eI {a b:List Nat}:jx a b=true↔∀ x∈a,x∉b:=by
 induction a with
 | nil=>simp [jx]
 | cons x a ih =>
  simp only [jx]
  cases h:cg x b with
  | true=>simp; exact fun h2=>absurd (fg.1 h) h2
  | false =>
   have:x∉b:=fun h2=>by rw [fg.2 h2] at h; cases h
   simp [ih,this]
def GL (m:Lk) (B:Nat->Prop) (G:Nat->Nat->Nat->Prop) (key d:Nat) (c:Cv):Prop :=
 ((d=0\/d=1)/\∀ r,c.row=some r->B r)\/(rT d=true/\((∃ r row,c= .sw r/\m.r r=some row/\nF d row.ow=true/\yV r=true/\G r key d)\/∃ τ,c= .nl τ))
theorem yz (key:Nat):∀ {cs:List Cv} {ms:List Nat} {j:Nat} {k b:List Nat},m.kC ms cs=some (k,b)->keys (zq key ms j cs)=k /\
  ∀ i c,cs[i]? =some c->GL m (·∈b) (fun r x d=>(r,(x,d))∈zq key ms j cs) (key+(j+i)) (md ms i) c
 | [],ms,j,k,b,h=>by simp only [Lk.kC,zA,zG] at h; obtain ⟨rfl,rfl⟩:=h; simp [zq,keys]
 | c::cs,ms,j,k,b,h=>by
  simp only [Lk.kC] at h
  cases hr:m.kC (tl ms) cs with
  | none=>simp [hr] at h
  | some p =>
   obtain ⟨k0,b0⟩:=p
   simp only [hr] at h
   obtain ⟨i1,i2⟩:=yz key (j:=j+1) hr
   have rest:∀ (b':List Nat) (pre:List (Nat×(Nat×Nat))),(∀ x∈b0,x∈b')->zq key ms j (c::cs)=pre++zq key (tl ms) (j+1) cs ->
     GL m (·∈b') (fun r x d=>(r,(x,d))∈zq key ms j (c::cs)) (key+(j+0)) (md ms 0) c ->
     ∀ i c',(c::cs)[i]? =some c'->GL m (·∈b') (fun r x d=>(r,(x,d))∈zq key ms j (c::cs)) (key+(j+i)) (md ms i) c':=by
    intro b' pre hb hp h0 i c' hc
    cases i with
    | zero=>simp only [List.getElem?_cons_zero,zA] at hc; subst hc; exact h0
    | succ i =>
     have:=i2 i c' (by simpa using hc)
     rw [yJ,show key+(j+1+i)=key+(j+(i+1)) by omega] at this
     rcases this with ⟨h1,h2⟩ | ⟨h1,h2⟩
     ·exact .inl ⟨h1,fun r hr=>hb _ (h2 r hr)⟩
     ·refine .inr ⟨h1,?_⟩
      rcases h2 with ⟨r,row,e1,e2,e3,e4,e5⟩ | h2
      ·exact .inl ⟨r,row,e1,e2,e3,e4,by rw [hp]; exact List.mem_append_right _ e5⟩
      ·exact .inr h2
   have mT:(hd ms=0\/hd ms=1)->(match c.row with | some r=>some (k0,r::b0) | none=>some (k0,b0))=some (k,b) ->
     keys (zq key ms j (c::cs))=k/\∀ i c',(c::cs)[i]? =some c'->GL m (·∈b) (fun r x d=>(r,(x,d))∈zq key ms j (c::cs)) (key+(j+i)) (md ms i) c':=fun hm h=>by
    have hp:zq key ms j (c::cs)=[]++zq key (tl ms) (j+1) cs:=by rcases hm with hm | hm<;>simp only [zq,hm]
    cases bo:c.row with
    | none =>
     rw [bo] at h; simp only [zA,zG] at h; obtain ⟨rfl,rfl⟩:=h
     exact ⟨by rw [hp]; exact i1,rest b0 [] (fun _ h=>h) hp (.inl ⟨hm,fun r hr=>by rw [bo] at hr; cases hr⟩)⟩
    | some r =>
     rw [bo] at h; simp only [zA,zG] at h; obtain ⟨rfl,rfl⟩:=h
     exact ⟨by rw [hp]; exact i1,rest (r::b0) [] (fun _ h=>zJ _ h) hp (.inl ⟨hm,fun s hs=>by rw [bo] at hs; cases hs; simp⟩)⟩
   revert h; split
   ·rename_i h0; exact fun h=>mT (.inl h0) h
   ·rename_i h1; exact fun h=>mT (.inr h1) h
   ·rename_i h0 h1
    split
    ·rename_i r
     cases K1:m.r r with
     | none=>simp
     | some row =>
      cases hk:rT (hd ms)&&yV r with
      | false=>simp [hk]
      | true =>
       cases hle:nF (hd ms) row.ow with
       | false=>simp [hk,hle]
       | true =>
        simp only [hk,hle,zA,zG]
        rintro ⟨rfl,rfl⟩
        simp only [zB] at hk
        have hp:zq key ms j (.sw r::cs)=[(r,(key+j,hd ms))]++zq key (tl ms) (j+1) cs:=by
         simp only [zq]
        exact ⟨by rw [hp,bA,i1]; rfl,rest b0 _ (fun _ h=>h) hp (.inr ⟨hk.1,.inl ⟨r,row,rfl,K1,hle,hk.2,by rw [hp,Nat.add_zero]; simp [wJ]⟩⟩)⟩
    ·rename_i τ
     cases hk:rT (hd ms) with
     | false=>simp
     | true =>
      simp only [zA,zG]
      rintro ⟨rfl,rfl⟩
      have hp:zq key ms j (.nl τ::cs)=[]++zq key (tl ms) (j+1) cs:=by simp only [zq]
      exact ⟨by rw [hp]; exact i1,rest b0 [] (fun _ h=>h) hp (.inr ⟨hk,.inr ⟨τ,rfl⟩⟩)⟩
    ·simp
theorem mu:∀ {κ:List Nat} {vl:List (List Nat)} {k0:Nat} {k b:List Nat},m.eJ vl κ=some (k,b)->keys (nV m k0 vl κ)=k /\
  ∀ (i v:Nat),κ[i]? =some v->∃ cs,m.v v=some cs/\∀ j c,cs[j]? =some c->GL m (·∈b) (fun r x d=>(r,(x,d))∈nV m k0 vl κ) (300000+(k0+i)*64+j) (md (LB vl i) j) c
 | [],vl,k0,k,b,h=>by simp only [Lk.eJ,zA,zG] at h; obtain ⟨rfl,rfl⟩:=h; simp [nV,keys]
 | v::κ,vl,k0,k,b,h=>by
  simp only [Lk.eJ] at h
  cases hv:m.v v with
  | none=>simp [hv] at h
  | some cs =>
   cases h1:m.kC (nJ vl) cs with
   | none=>simp [hv,h1] at h
   | some p =>
    cases h2:m.eJ (tl vl) κ with
    | none=>simp [hv,h1,h2] at h
    | some q =>
     obtain ⟨a1,b1⟩:=p
     obtain ⟨a2,b2⟩:=q
     simp only [hv,h1,h2,zA,zG] at h
     obtain ⟨rfl,rfl⟩:=h
     obtain ⟨i1,i2⟩:=yz (300000+k0*64) (j:=0) h1
     obtain ⟨j1,j2⟩:=mu (k0:=k0+1) h2
     have hp:nV m k0 vl (v::κ)=zq (300000+k0*64) (nJ vl) 0 cs++nV m (k0+1) (tl vl) κ:=by simp only [nV,hv]
     refine ⟨by rw [hp,bA,i1,j1],fun i u hu=> ?_⟩
     have lift:∀ {B B':Nat->Prop} {G G':Nat->Nat->Nat->Prop} {key d:Nat} {c:Cv},(∀ r,B r->B' r)->(∀ r k d,G r k d->G' r k d)->GL m B G key d c->GL m B' G' key d c:=by
      intro B B' G G' key d c hB hG h
      rcases h with ⟨h1,h2⟩ | ⟨h1,⟨r,row,e1,e2,e3,e4,e5⟩ | h2⟩
      ·exact .inl ⟨h1,fun r hr=>hB _ (h2 r hr)⟩
      ·exact .inr ⟨h1,.inl ⟨r,row,e1,e2,e3,e4,hG _ _ _ e5⟩⟩
      ·exact .inr ⟨h1,.inr h2⟩
     cases i with
     | zero =>
      simp only [List.getElem?_cons_zero,zA] at hu; subst hu
      refine ⟨cs,hv,fun j c hc=> ?_⟩
      have:=i2 j c hc
      rw [Nat.zero_add] at this
      rw [Nat.add_zero,GI]
      exact lift (fun r hr=>List.mem_append_left _ hr) (fun r k d hg=>by rw [hp]; exact List.mem_append_left _ hg) this
     | succ i =>
      obtain ⟨cs',Zb,h3⟩:=j2 i u (by simpa using hu)
      refine ⟨cs',Zb,fun j c hc=> ?_⟩
      have:=h3 j c hc
      rw [Et,show k0+1+i=k0+(i+1) by omega] at this
      exact lift (fun r hr=>List.mem_append_right _ hr) (fun r k d hg=>by rw [hp]; exact List.mem_append_right _ hg) this
theorem vT:∀ {κ:List Nat} {vl:List (List Nat)} {cH:List (List Ct)},m.ux vl κ=some cH->cH.length=κ.length /\
  ∀ (i v:Nat),κ[i]? =some v->∃ cs l,m.v v=some cs/\m.iw cs=some l/\cH[i]? =some l/\cs.length<=63
 | [],vl,cH,h=>by simp only [Lk.ux,zA] at h; subst h; simp
 | v::κ,vl,cH,h=>by
  simp only [Lk.ux] at h
  cases hv:m.v v with
  | none=>simp [hv] at h
  | some cs =>
   cases hb:Nat.ble cs.length 63 with
   | false=>simp [hv,hb] at h
   | true =>
    cases hc:m.iw cs with
    | none=>simp [hv,hb,hc] at h
    | some l =>
     cases hr:m.ux (tl vl) κ with
     | none=>simp [hv,hb,hc,hr] at h
     | some r =>
      simp only [hv,hb,hc,hr,zA] at h; subst h
      obtain ⟨i1,i2⟩:=vT hr
      refine ⟨by simp [i1],fun i u hu=> ?_⟩
      cases i with
      | zero=>simp only [List.getElem?_cons_zero,zA] at hu; subst hu; exact ⟨cs,l,hv,hc,rfl,zQ hb⟩
      | succ i =>
       obtain ⟨cs',l',h1,h2,h3,h4⟩:=i2 i u (by simpa using hu)
       exact ⟨cs',l',h1,h2,by simpa using h3,h4⟩
theorem kB:∀ {cs:List Cv} {ys:List Ct},m.iw cs=some ys->ys.length=cs.length/\∀ (i:Nat) (y:Ct),ys[i]? =some y->∃ c,cs[i]? =some c/\m.ct c=some y
 | [],ys,h=>by simp only [Lk.iw,zA] at h; subst h; simp
 | c::cs,ys,h=>by
  simp only [Lk.iw] at h
  cases h1:m.ct c with
  | none=>simp [h1] at h
  | some y =>
   cases h2:m.iw cs with
   | none=>simp [h1,h2] at h
   | some r =>
    simp only [h1,h2,zA] at h; subst h
    obtain ⟨i1,i2⟩:=kB h2
    refine ⟨by simp [i1],fun i u hu=> ?_⟩
    cases i with
    | zero=>simp only [List.getElem?_cons_zero,zA] at hu; subst hu; exact ⟨c,rfl,h1⟩
    | succ i=>simpa using i2 i u (by simpa using hu)
structure bL where
 m:Lk
 g:ub
 ja:List AV
 ar:AR
 cH:List (List Ct)
 ow:List Nat
 b:List Nat
structure bL.Ok (c:bL):Prop where
 args:c.m.args c.g.am c.ja []=some c.ar
 ux:c.m.ux c.g.vl c.ar.κ=some c.cH
 hand:c.m.sF c.g c.ar=some (c.ow,c.b)
 len:c.ja.length<=1000
 aaH:c.ar.κ.length<=1000
def bL.H (c:bL):List (Nat×(Nat×Nat)):=uO c.g.am 0 c.ja++(nV c.m 0 c.g.vl c.ar.κ++Fx c.g.am 0 c.ja)
def bL.mT (c:bL) (r:Nat):Prop:=r∈c.ar.mT\/r∈c.b
open Classical in
noncomputable def bL.rb (c:bL):Rb where
 r r:=match lk c.H r with
  | some p=>some p
  | none=>if r∈c.ar.fz then some (0,3) else if c.mT r/\∃ row,c.m.r r=some row/\ej row.ow=true then some (0,1) else none
 d:=some .x
 v v:=match mZ v 0 c.ar.κ with | some k=>some (.v k) | none=>some .x
def cellAt (v:Value) (j:Nat):Value:=v.cells.toList.getD j undef
def bL.rv (c:bL) (γ:Gh) (w:World) (args:List Value) (key:Nat):Value :=
 if key<200000 then cellAt (args.getD ((key-100000)/64) undef) ((key-100000) % 64) else if key<300000 then args.getD ((key-200000)/64) undef
 else match w.heap[γ.vb (c.ar.κ.getD ((key-300000)/64) 0)]? with
  | some (.cells cur _ _)=>cur.toList.getD ((key-300000) % 64) undef
  | _=>undef
noncomputable def bL.O (c:bL) (γ:Gh):OM:=fun g=>(γ.O g).bind c.rb.f
open Classical in
noncomputable def bL.cv (c:bL) (X:Ctx) (γ:Gh) (w:World) (args:List Value) (key:Nat):List Value :=
 match (entry c.g c.ar.cf c.cH).lk.r key with
 | some row=>if h:∃ cs,cP X (c.O γ) w key row (c.rv γ w args key) cs then Classical.choose h else []
 | none=>[]
noncomputable def bL.gh (c:bL) (X:Ctx) (γ:Gh) (w:World) (args:List Value):Gh:=⟨c.O γ,c.rv γ w args,c.cv X γ w args,fun k=>γ.vb (c.ar.κ.getD k 0)⟩
structure bL.Fact (c:bL):Prop where
 nd:(keys c.H).Nodup
 hk:∀ r k d,(r,(k,d))∈c.H->c.rb.r r=some (k,d)
 fz:∀ r,r∈c.ar.fz->c.rb.r r=some (0,3)
 mT:∀ r,c.mT r->lk c.H r=none
 fzH:∀ r,r∈c.ar.fz->lk c.H r=none
 kH:keys c.H=c.ar.gone++(c.ow++c.ar.io)
theorem bL.Ok.fact {c:bL} (h:c.Ok):c.Fact:=by
 have ha:=sX c.ja c.g.am [] 0 c.ar h.args
 have hh:=h.hand
 simp only [Lk.sF] at hh
 cases ho:c.m.eJ c.g.vl c.ar.κ with
 | none=>simp [ho] at hh
 | some p =>
  obtain ⟨ow,b⟩:=p
  simp only [ho] at hh
  have vQ:=(mu (k0:=0) ho).1
  revert hh; split
  ·rename_i n1 n2 n3 n4
   intro hh; simp only [zA,zG] at hh
   obtain ⟨e1,e2⟩:=hh
   rw [e1] at n1 n2 n3 n4 vQ
   rw [e2] at n4
   have kH:keys c.H=c.ar.gone++(c.ow++c.ar.io):=by
    simp only [bL.H,bA,ha.gone,ha.io,vQ]
   have nd:(keys c.H).Nodup:=by rw [kH]; exact gE.1 n1
   have no:∀ r,r∉c.ar.gone++(c.ow++c.ar.io)->lk c.H r=none:=fun r hr=>cG.2 (by rw [kH]; exact hr)
   have fzH:∀ r,r∈c.ar.fz->lk c.H r=none:=fun r hr=>no r (eI.1 n2 r hr)
   refine ⟨nd,fun r k d hm=> ?_,fun r hr=> ?_,fun r hr=> ?_,fzH,kH⟩
   ·simp only [bL.rb,fZ nd hm]
   ·simp only [bL.rb,fzH r hr,if_pos hr]
   ·rcases hr with hr | hr
    ·exact no r (eI.1 n3 r hr)
    ·exact no r (eI.1 n4 r hr)
  ·intro hh; cases hh
theorem xJ {r ow:Nat} {o:Option Ow} (h:Q6 r ow o):o=none\/o=some .fz\/(o=some (.r r)/\ej ow=true)\/∃ e c,o=some (.n r e c)/\ow=5:=by
 rcases h with h | ⟨e,c,h⟩
 ·revert h; simp only [dO]; split
  ·rename_i ho; exact fun h=> .inr (.inr (.inl ⟨h,ho⟩))
  ·split
   ·exact fun h=> .inr (.inl h)
   ·exact fun h=>h.elim .inl (fun h=> .inr (.inl h))
 ·revert h; simp only [dR]; split
  ·exact fun h=> .inr (.inr (.inr ⟨e,c,h,rfl⟩))
  ·exact fun h=> .inr (.inl h)
  ·exact fun h=> .inr (.inl h)
  ·exact fun h=>h.elim .inl (fun h=> .inr (.inl h))
theorem bL.Fact.Uj {c:bL} (hf:c.Fact) {r:Nat} (hb:c.mT r) {row:Row} (hr:c.m.r r=some row) {o:Option Ow} (h:Q6 r row.ow o):In .mT (o.bind c.rb.f):=by
 have key:ej row.ow=true->c.rb.r r=some (0,3)\/c.rb.r r=some (0,1):=by
  intro ho
  by_cases hz:r∈c.ar.fz
  ·exact .inl (hf.fz r hz)
  ·right; simp only [bL.rb,hf.mT r hb,if_neg hz,if_pos (⟨hb,row,hr,ho⟩:c.mT r/\∃ row,c.m.r r=some row/\ej row.ow=true)]
 rcases xJ h with rfl | rfl | ⟨rfl,ho⟩ | ⟨e,c',rfl,h5⟩
 ·exact .inl rfl
 ·exact .inr rfl
 ·show In .mT (c.rb.f (.r r))
  rcases key ho with h1 | h1<;>simp only [Rb.f,h1]
  ·exact .inr rfl
  ·exact .inl rfl
 ·show In .mT (c.rb.f (.n r e c'))
  rcases key (by rw [h5]; rfl) with h1 | h1<;>simp only [Rb.f,h1]
  ·exact .inr rfl
  ·exact .inl rfl
theorem cP.nil (X:Ctx) (O:OM) (w:World) (k:Nat) (τ:Ty) (d:Nat):cP X O w k ⟨τ,[],d⟩ (.slice none 0 0) []:=by
 refine ⟨?_,fun e c ct he=>by simp at he⟩
 show Sl X O w (dO k d) τ _ _ _
 cases dO k d with
 | own t=>exact ⟨World.ownsRow_nil w 0 _ _,by simp [Value.ownBlock]⟩
 | _=>exact ⟨by simp,.inl ⟨rfl,rfl⟩⟩
theorem J6 {c:Cv} {τ:Ty} {xs:List (El τ)} (h:m.ct c=some (.l τ xs)):(m.vw c).ct=some (.l τ xs):=by
 cases c<;>first | exact h | (simp [Lk.ct] at h; done)
theorem bL.Fact.cell {c:bL} (hf:c.Fact) (hm:Le c.m S.lk) (hR:Rel X S.lk γ w) {x:Cv} {u:Value} (hx:bq S.lk γ x u) {τ:Ty} {xs:List (El τ)} (de:c.m.ct x=some (.l τ xs)) {key d:Nat}
  (h:(d=1/\∀ r,x.row=some r->c.mT r)\/(rT d=true/\Pq c.m d x/\∀ r,x= .sw r->(r,(key,d))∈c.H\/(d=3/\r∈c.ar.fz))) :
  ∃ cs,cP X (c.O γ) w key ⟨τ,xs,d⟩ u cs:=by
 rcases h with ⟨rfl,hb⟩ | ⟨hd,ho,hh⟩
 ·obtain ⟨cs,hv⟩:=EL (A:=fun g=>In .mT (c.O γ g)) hm hR hx (fun r row g hr Nj hi=>hf.Uj (hb r Nj) hr hi) (J6 de)
  exact ⟨cs,hv.H3⟩
 ·rcases ho with ⟨r,row,rfl,hr,hle⟩ | ⟨σ,rfl⟩ | ⟨b,rfl⟩ | ⟨k,n,rfl⟩ | ⟨s,rfl⟩
  ·simp only [Lk.ct,Lk.vw,hr,Vw.ct,zA,Ct.l.injEq] at de
   obtain ⟨rfl,de⟩:=de; cases de
   obtain ⟨_,rfl⟩:=hx
   rcases hh r rfl with h1 | ⟨rfl,h1⟩
   ·exact ⟨γ.cv r,(hR.rs r row (hm.r r row hr)).relabel (a:=c.rb) (fun _=>hf.hk r key d h1) hle (fun g o hg _=>⟨hg,rfl⟩)⟩
   ·have:=(hR.rs r row (hm.r r row hr)).relabel (a:=c.rb) (O':=c.O γ) (fun _=>hf.fz r h1) hle (fun g o hg _=>⟨hg,rfl⟩)
    exact ⟨γ.cv r,this.top,this.rG⟩
  ·simp only [Lk.ct,Lk.vw,Vw.ct,zA,Ct.l.injEq] at de
   obtain ⟨rfl,de⟩:=de; cases de
   have hx:u= .slice none 0 0:=hx
   subst hx
   exact ⟨[],cP.nil _ _ _ _ _ _⟩
  ·simp [Lk.ct] at de
  ·simp [Lk.ct] at de
  ·simp [Lk.ct] at de
theorem lH.vJ {m:Lk} {γ:Gh}:∀ {l:List AV} {u:List Value},l.length=u.length->(∀ (i:Nat) (x:AV) (v:Value),l[i]? =some x->u[i]? =some v->bk m γ x v)->lH m γ l u
 | [],[],_,_=> .nil
 | [],_::_,h,_=>by simp at h
 | _::_,[],h,_=>by simp at h
 | x::l,v::u,hl,h=> .cons (h 0 x v rfl rfl) (lH.vJ (by simpa using hl) fun i x v hx hv=>h (i+1) x v hx hv)
theorem lH.get {m:Lk} {γ:Gh} {l:List AV} {u:List Value} (h:lH m γ l u):l.length=u.length/\∀ (i:Nat) (x:AV),l[i]? =some x->∃ v,u[i]? =some v/\bk m γ x v:=by
 induction h with
 | nil=>simp
 | cons hx _ ih =>
  refine ⟨by simp [ih.1],fun i y hy=> ?_⟩
  cases i with
  | zero=>simp at hy; subst hy; exact ⟨_,rfl,hx⟩
  | succ i=>simpa using ih.2 i y (by simpa using hy)
theorem zr {c:Cv} {y:Ct} (h:m.ct c=some y) (hu:y≠ .u) (hl:∀ τ xs,y≠ .l τ xs):bq M γ c=fun v=>v=gu y:=by
 cases c with
 | un=>simp [Lk.ct] at h; exact absurd h.symm hu
 | b x=>simp [Lk.ct] at h; subst h; rfl
 | i k n=>simp [Lk.ct] at h; subst h; rfl
 | s x=>simp [Lk.ct] at h; subst h; rfl
 | _ =>
  exfalso; simp only [Lk.ct] at h
  revert h; cases m.vw _<;>simp [Vw.ct]
  all_goals (intro h; exact hl _ _ h.symm)
theorem yD {e0:Lk} {γ0:Gh} (hR:Rel X M γ w) {c:Cv} {v:Value} (hx:bq M γ c v) {y y':Ct} (h:m.ct c=some y) (hy:y'=y\/y'=mL y) {key:Nat}
  (hl:∀ τ xs,y'= .l τ xs->(∃ row,e0.r key=some row)/\v=γ0.rv key):bq e0 γ0 (tW key y') v:=by
 cases y' with
 | u=>exact hx.one hR
 | l τ xs=>exact hl τ xs rfl
 | b x =>
  have:y= .b x:=by rcases hy with h | h; exact h.symm; cases y<;>simp_all [mL]
  subst this
  have:=zr (M:=M) (γ:=γ) h (by simp) (by simp)
  rw [this] at hx; exact hx
 | i k n =>
  have:y= .i k n:=by rcases hy with h | h; exact h.symm; cases y<;>simp_all [mL]
  subst this
  have:=zr (M:=M) (γ:=γ) h (by simp) (by simp)
  rw [this] at hx; exact hx
 | s x =>
  have:y= .s x:=by rcases hy with h | h; exact h.symm; cases y<;>simp_all [mL]
  subst this
  have:=zr (M:=M) (γ:=γ) h (by simp) (by simp)
  rw [this] at hx; exact hx
theorem E2 (hR:Rel X M γ w) {v:AV} {x:AC} {cs:List Cv} {ys:List Ct} (h:V9 v x cs ys) {u:Value} (hv:bk M γ v u):(v= .c .un/\cs=[.un])\/ca M γ cs u.cells.toList:=by
 rcases h with ⟨rfl,rfl⟩ | ⟨c,y,rfl,rfl,rfl,rfl⟩
 ·exact .inr (qi hR hv rfl)
 ·by_cases hu:c= .un
  ·subst hu; exact .inl ⟨rfl,rfl⟩
  ·right; exact qi hR hv (by cases c<;>first | rfl | exact absurd rfl hu)
theorem bL.E5 (c:bL) (γ:Gh) (w:World) (args:List Value) (P j:Nat) (hj:j<64) (hP:P<=1000):c.rv γ w args (100000+P*64+j)=cellAt (args.getD P undef) j:=by
 have h1:100000+P*64+j<200000:=by omega
 have h2:(100000+P*64+j-100000)/64=P:=by omega
 have h3:(100000+P*64+j-100000) % 64=j:=by omega
 simp only [bL.rv,if_pos h1,h2,h3]
theorem bL.Oz (c:bL) (γ:Gh) (w:World) (args:List Value) (P:Nat) (hP:P<=1000):c.rv γ w args (200000+P*64)=args.getD P undef:=by
 have h1:¬ 200000+P*64<200000:=by omega
 have h2:200000+P*64<300000:=by omega
 have h3:(200000+P*64-200000)/64=P:=by omega
 simp only [bL.rv,if_neg h1,if_pos h2,h3]
theorem bL.EP (c:bL) (γ:Gh) (w:World) (args:List Value) (k j v:Nat) (hj:j<64) (hk:c.ar.κ[k]? =some v) {cur:Array Value} {e:TypeId} {fz:Nat×Nat} (hc:w.heap[γ.vb v]? =some (.cells cur e fz)) :
  c.rv γ w args (300000+k*64+j)=cur.toList.getD j undef:=by
 have h1:¬ 300000+k*64+j<200000:=by omega
 have h2:¬ 300000+k*64+j<300000:=by omega
 have h3:(300000+k*64+j-300000)/64=k:=by omega
 have h4:(300000+k*64+j-300000) % 64=j:=by omega
 have h5:c.ar.κ.getD k 0=v:=by simp [List.getD,hk]
 simp only [bL.rv,if_neg h1,if_neg h2,h3,h4,h5,hc]
structure bL.HH (c:bL) (X:Ctx) (S:St) (γ:Gh) (w:World) (args:List Value):Prop where
 ok:c.Ok
 le:Le c.m S.lk
 rel:Rel X S.lk γ w
 top:∀ g,w.heap.size<=g->γ.O g=none
 args:lH S.lk γ c.ja args
theorem bL.HH.arg {c:bL} {args:List Value} (h:c.HH X S γ w args) {P:Nat} {x:AC} (hx:c.ar.cf[P]? =some x):∃ v u,c.ja[P]? =some v/\args[P]? =some u/\args.getD P undef=u/\bk S.lk γ v u/\P<=1000 /\
  AM c.m c.ar.κ (fun r k d=>(r,(k,d))∈c.H) (·∈c.ar.fz) (·∈c.ar.mT) (c.ar.ly=true) (md c.g.am P) P v x:=by
 have ha:=sX c.ja c.g.am [] 0 c.ar h.ok.args
 have hP:P<c.ja.length:=by have:=(zU.1 hx).1; rw [ha.len] at this; exact this
 have hv:c.ja[P]? =some c.ja[P]:=List.getElem?_eq_getElem hP
 obtain ⟨u,hu,hr⟩:=h.args.get.2 P _ hv
 obtain ⟨x',zW,hA⟩:=ha.arg P _ hv
 rw [hx] at zW; cases zW
 refine ⟨_,u,hv,hu,by simp [List.getD,hu],hr,by have:=h.ok.len; omega,?_⟩
 rw [Nat.zero_add] at hA
 refine hA.mono (fun _ _ h=>h) (fun r k d hg=> ?_) (fun _ h=>h) (fun _ h=>h) id
 simp only [bL.H,zH] at hg ⊢
 rcases hg with hg | hg
 ·exact .inl hg
 ·exact .inr (.inr hg)
theorem lY {d:Nat} (h:rT d=true):d=3\/d=4\/d=5:=by revert h; simp only [rT]; split<;>simp_all
theorem N9 {d:Nat} (h:rT d=true):kd 0 d=d:=by rcases lY h with rfl | rfl | rfl<;>rfl
theorem bL.HH.row {c:bL} {args:List Value} (h:c.HH X S γ w args) {key:Nat} {row:Row} (hr:(entry c.g c.ar.cf c.cH).lk.r key=some row) :
  ∃ cs,cP X (c.O γ) w key row (c.rv γ w args key) cs:=by
 have hf:=h.ok.fact
 rcases JL hr with ⟨P,x,hx,hA⟩ | ⟨k,l,j,τ,xs,hl,hj,rfl,rfl⟩
 ·obtain ⟨v,u,hv,hu,Qe,vP,hP,Zh⟩:=h.arg hx
  rcases hA with ⟨j,τ,xs,hj,rfl,rfl⟩ | ⟨τ,xs,rfl,rfl,rfl⟩
  ·cases Zh with
   | val h1 h2 h3 h4 =>
    rename_i cs ys ys'
    have PZ:acl x=ys':=by rcases h1 with ⟨_,rfl⟩ | ⟨_,_,_,rfl,_,rfl⟩<;>rfl
    rw [PZ] at hj
    rcases h4 with ⟨hd,rfl,hb,_⟩ | ⟨hd,rfl⟩ | ⟨hd,rfl,ho,hz,hg,_⟩
    ·obtain ⟨cc,hc,de⟩:=(kB h3).2 j _ hj
     rcases E2 h.rel h1 vP with ⟨rfl,rfl⟩ | Cc
     ·cases j<;>simp at hc; subst hc; simp [Lk.ct] at de
     ·obtain ⟨uv,Hv,zZ⟩:=Cc.get hc
      have Ni:j<64:=by have:=(zU.1 hc).1; omega
      rw [c.E5 γ w args P j Ni hP,Qe,show cellAt u j=uv by simp [cellAt,List.getD,Hv]]
      rw [hd]
      exact hf.cell h.le h.rel zZ de (.inl ⟨rfl,fun r hr=> .inl (hb cc (List.mem_of_getElem? hc) r hr)⟩)
    ·rw [List.getElem?_map] at hj
     cases hy:ys[j]? with
     | none=>rw [hy] at hj; cases hj
     | some y=>rw [hy] at hj; cases y<;>simp [mL] at hj
    ·obtain ⟨cc,hc,de⟩:=(kB h3).2 j _ hj
     rcases E2 h.rel h1 vP with ⟨rfl,rfl⟩ | Cc
     ·cases j<;>simp at hc; subst hc; simp [Lk.ct] at de
     ·obtain ⟨uv,Hv,zZ⟩:=Cc.get hc
      have Ni:j<64:=by have:=(zU.1 hc).1; omega
      rw [c.E5 γ w args P j Ni hP,Qe,show cellAt u j=uv by simp [cellAt,List.getD,Hv],N9 hd]
      refine hf.cell h.le h.rel zZ de (.inr ⟨hd,ho cc (List.mem_of_getElem? hc),fun r e=> ?_⟩)
      by_cases KY:md c.g.am P=3
      ·exact .inr ⟨KY,hz KY cc (List.mem_of_getElem? hc) r e⟩
      ·exact .inl (hg KY j r (by rw [hc,e]))
   | io h1 h2 h3 h4=>simp [acl] at hj
   | _=>simp [acl] at hj
  ·cases Zh with
   | io h0 h1 h2 h3 =>
    rename_i r
    rw [c.Oz γ w args P hP,Qe]
    have zZ:bq S.lk γ (.sw r) u:=vP
    exact hf.cell h.le h.rel zZ (by simp [Lk.ct,Lk.vw,h2,Vw.ct]) (.inr ⟨rfl,.inl ⟨r,_,rfl,h2,rfl⟩,fun s e=>by cases e; exact .inl h3⟩)
   | val h1=>rcases h1 with ⟨_,h⟩ | ⟨_,_,_,h,_⟩<;>cases h
 ·have VW:=vT h.ok.ux
  have hk:k<c.ar.κ.length:=by have:=(zU.1 hl).1; rw [VW.1] at this; exact this
  have HN:c.ar.κ[k]? =some c.ar.κ[k]:=List.getElem?_eq_getElem hk
  obtain ⟨cs,l',iX,de,xi,VZ⟩:=VW.2 k _ HN
  rw [hl] at xi; cases xi
  obtain ⟨cc,hc,CQ⟩:=(kB de).2 j _ hj
  obtain ⟨_,cur,e,mS,Cc⟩:=h.rel.vs _ cs (h.le.v _ _ iX)
  obtain ⟨uv,Hv,zZ⟩:=Cc.get hc
  have Ni:j<64:=by have:=(zU.1 hc).1; omega
  rw [c.EP γ w args k j _ Ni HN mS,show cur.toList.getD j undef=uv by simp only [List.getD,Hv]; rfl]
  have hh:=h.ok.hand
  simp only [Lk.sF] at hh
  cases ho:c.m.eJ c.g.vl c.ar.κ with
  | none=>simp [ho] at hh
  | some p =>
   obtain ⟨ow,b⟩:=p
   have hb:b=c.b:=by
    simp only [ho] at hh
    revert hh; split
    ·intro hh; simp only [zA,zG] at hh; exact hh.2
    ·intro hh; cases hh
   obtain ⟨cs2,Qr,Wl⟩:=(mu (k0:=0) ho).2 k _ HN
   rw [iX] at Qr; cases Qr
   have Wl:=Wl j cc hc
   rw [Nat.zero_add] at Wl
   have hH:∀ r x d,(r,(x,d))∈nV c.m 0 c.g.vl c.ar.κ->(r,(x,d))∈c.H:=fun r x d hm=>List.mem_append_right _ (List.mem_append_left _ hm)
   rcases Wl with ⟨hd,QF⟩ | ⟨hd,⟨r,row,rfl,e2,e3,e4,e5⟩ | ⟨σ,rfl⟩⟩
   ·have:kd 0 (md (LB c.g.vl k) j)=1:=by rcases hd with h | h<;>rw [h]<;>rfl
    rw [this]
    exact hf.cell h.le h.rel zZ CQ (.inl ⟨rfl,fun r hr=> .inr (hb▸QF r hr)⟩)
   ·rw [N9 hd]
    exact hf.cell h.le h.rel zZ CQ (.inr ⟨hd,.inl ⟨r,row,rfl,e2,e3⟩,fun s e=>by cases e; exact .inl (hH _ _ _ e5)⟩)
   ·rw [N9 hd]
    exact hf.cell h.le h.rel zZ CQ (.inr ⟨hd,.inr (.inl ⟨σ,rfl⟩),fun s e=>by cases e⟩)
theorem bL.HH.pre {c:bL} {args:List Value} (h:c.HH X S γ w args):S2 X c.g c.ar.cf c.cH (c.gh X γ w args) w args:=by
 have hf:=h.ok.fact
 have ha:=sX c.ja c.g.am [] 0 c.ar h.ok.args
 have VW:=vT h.ok.ux
 refine ⟨⟨fun k cs hk=> ?_,fun key row hr=> ?_⟩,fun b hb=> ?_,lH.vJ ?_ fun P x u hx hu=> ?_⟩
 ·rw [JN] at hk
  cases hl:c.cH[k]? with
  | none=>rw [hl] at hk; cases hk
  | some l =>
   rw [hl] at hk; simp only [Option.map_some,zA] at hk; subst hk
   have hkl:k<c.ar.κ.length:=by have:=(zU.1 hl).1; rw [VW.1] at this; exact this
   have HN:c.ar.κ[k]? =some c.ar.κ[k]:=List.getElem?_eq_getElem hkl
   obtain ⟨cs,l',iX,de,xi,VZ⟩:=VW.2 k _ HN
   rw [hl] at xi; cases xi
   obtain ⟨hO,cur,e,mS,Cc⟩:=h.rel.vs _ cs (h.le.v _ _ iX)
   have FC:(c.gh X γ w args).vb k=γ.vb c.ar.κ[k]:=by show γ.vb (c.ar.κ.getD k 0)=_; simp [List.getD,HN]
   rw [FC]
   have abI:mZ c.ar.κ[k] 0 c.ar.κ=some k:=by
    cases hi:mZ c.ar.κ[k] 0 c.ar.κ with
    | none=>exact absurd (List.getElem_mem hkl) (tK hi)
    | some k' =>
     have h1:=(sA hi).2
     have HC:c.ar.κ.Nodup:=ha.nd (by simp)
     have h2:k'-0<c.ar.κ.length:=(zU.1 h1).1
     have:=(List.getElem?_inj h2 HC).1 (h1.trans HN.symm)
     rw [← this]; simp
   refine ⟨?_,cur,e,mS,?_⟩
   ·show (γ.O (γ.vb c.ar.κ[k])).bind c.rb.f=some (.v k)
    rw [hO]
    show c.rb.f (.v c.ar.κ[k])=_
    simp only [Rb.f,bL.rb,abI]
   ·have hlen:=(kB de).1
    have Y7:=Cc.length
    apply ca.vJ
    ·rw [sH,hlen]; exact Y7
    ·intro j x v hx hv
     rw [AG] at hx
     cases hy:l[j]? with
     | none=>rw [hy] at hx; cases hx
     | some y =>
      rw [hy] at hx; simp only [Option.map_some,zA,Nat.add_zero] at hx; subst hx
      obtain ⟨cc,hc,CQ⟩:=(kB de).2 j _ hy
      obtain ⟨uv,Hv,zZ⟩:=Cc.get hc
      rw [hv] at Hv; cases Hv
      have Ni:j<64:=by have:=(zU.1 hc).1; omega
      refine yD h.rel zZ CQ (.inl rfl) fun τ xs e1=>⟨tR (.inr ⟨k,l,j,τ,xs,hl,by rw [hy,e1],rfl,rfl⟩),?_⟩
      show v=c.rv γ w args (300000+k*64+j)
      rw [c.EP γ w args k j _ Ni HN mS]; simp only [List.getD,hv]; rfl
 ·have hex:=h.row hr
  show cP X (c.O γ) w key row (c.rv γ w args key) (c.cv X γ w args key)
  have:c.cv X γ w args key=Classical.choose hex:=by simp only [bL.cv,hr,dif_pos hex]
  rw [this]; exact Classical.choose_spec hex
 ·show (γ.O b).bind c.rb.f=none
  rw [h.top b hb]; rfl
 ·have Ws:(rX c.g.am 0 c.ar.cf).1.length=c.ar.cf.length:=by
   have h1:=xc c.ar.cf c.g.am 0
   apply Nat.le_antisymm
   ·apply Nat.not_lt.1; intro fM
    have:=h1 c.ar.cf.length
    rw [List.getElem?_eq_getElem fM] at this; simp at this
   ·apply Nat.not_lt.1; intro fM
    have:=h1 (rX c.g.am 0 c.ar.cf).1.length
    rw [List.getElem?_eq_none (Nat.le_refl _),List.getElem?_eq_getElem fM] at this; simp at this
  rw [Ws,ha.len]; exact h.args.get.1
 ·rw [xc] at hx
  cases hy:c.ar.cf[P]? with
  | none=>rw [hy] at hx; cases hx
  | some y =>
   rw [hy] at hx; simp only [Option.map_some,zA,Nat.zero_add] at hx; subst hx
   obtain ⟨v,u',hv,oU,Qe,vP,hP,hA⟩:=h.arg hy
   rw [hu] at oU; cases oU
   have CO:∀ i k,c.ar.κ[i]? =some k->(∃ cs,(entry c.g c.ar.cf c.cH).lk.v i=some cs)/\(c.gh X γ w args).vb i=γ.vb k:=by
    intro i k hk
    obtain ⟨cs,l,iX,de,hl,_⟩:=VW.2 i k hk
    exact ⟨⟨_,by rw [JN,hl]; rfl⟩,by show γ.vb (c.ar.κ.getD i 0)=_; simp [List.getD,hk]⟩
   have hA0:=hA
   cases hA with
   | ptr h0 h1 =>
    rename_i k i
    obtain ⟨h2,h3⟩:=CO i k h1
    obtain ⟨_,hpv⟩:=vP
    exact ⟨h2,by rw [h3]; exact hpv⟩
   | fn h0 h1 h2 =>
    rename_i f caps ks
    obtain ⟨_,Py⟩:=vP
    refine ⟨fun i hi=> ?_,?_⟩
    ·obtain ⟨n,hn⟩:=List.mem_iff_getElem?.1 hi
     obtain ⟨vv,_,h4⟩:=h2 n i hn
     exact (CO i vv h4).1
    ·rw [Py]; congr 2
     apply List.ext_getElem?
     intro n
     simp only [List.getElem?_map]
     cases hn:ks[n]? with
     | none =>
      have:caps[n]? =none:=by
       apply List.getElem?_eq_none
       rw [← h1]
       exact Nat.not_lt.1 fun fM=>by rw [List.getElem?_eq_getElem fM] at hn; cases hn
      rw [this]; rfl
     | some i =>
      obtain ⟨vv,h3,h4⟩:=h2 n i hn
      rw [h3]
      simp only [Option.map_some]
      rw [(CO i vv h4).2]
   | io h0 h1 h2 h3 =>
    rename_i r τ xs
    show bq _ _ (.sw (200000+P*64)) u
    refine ⟨tR (.inl ⟨P,_,hy,.inr ⟨τ,xs,rfl,rfl,rfl⟩⟩),?_⟩
    show u=c.rv γ w args (200000+P*64)
    rw [c.Oz γ w args P hP,Qe]
   | al h0 h8 h1 h2 h3 =>
    rename_i r vv cc cs
    show bq _ _ (.sw (300000+0*64+cc)) u
    obtain ⟨cs',l,iX,de,hl,VZ⟩:=VW.2 0 vv h1
    rw [h2] at iX; cases iX
    have Nd:=(kB de).1
    have af6:cc<cs.length:=(zU.1 h3).1
    have MR:l[cc]? =some (l[cc]'(by omega)):=List.getElem?_eq_getElem (by omega)
    obtain ⟨c3,hY,SA⟩:=(kB de).2 cc _ MR
    rw [h3] at hY; cases hY
    obtain ⟨_,cur,e,mS,Cc⟩:=h.rel.vs _ cs (h.le.v _ _ h2)
    obtain ⟨uv,Hv,zZ⟩:=Cc.get h3
    have K1:u=γ.rv r:=vP.2
    have QN:uv=γ.rv r:=zZ.2
    obtain ⟨row,bo⟩:∃ row,c.m.r r=some row:=by
     simp only [Lk.ct,Lk.vw] at SA
     cases hr:c.m.r r with
     | none=>simp [hr,Vw.ct] at SA
     | some row=>exact ⟨row,rfl⟩
    have fM:l[cc]'(by omega)= .l row.τ row.xs:=by
     simp only [Lk.ct,Lk.vw,bo,Vw.ct,zA] at SA; exact SA.symm
    refine ⟨tR (.inr ⟨0,l,cc,row.τ,row.xs,hl,by rw [MR,fM],rfl,rfl⟩),?_⟩
    show u=c.rv γ w args (300000+0*64+cc)
    rw [c.EP γ w args 0 cc _ (by omega) h1 mS,K1,← QN]; simp only [List.getD,Hv]; rfl
   | val h1 h2 h3 h4 =>
    rename_i cs ys ys'
    have eG:∀ (j:Nat) (y':Ct),ys'[j]? =some y'->∃ (cc:Cv) (y:Ct),cs[j]? =some cc/\c.m.ct cc=some y/\(y'=y\/y'=mL y):=by
     intro j y' hj
     have main:∀ (y0:Ct),ys[j]? =some y0->∃ cc,cs[j]? =some cc/\c.m.ct cc=some y0:=fun y0 h=>(kB h3).2 j y0 h
     rcases h4 with ⟨_,rfl,_⟩ | ⟨_,rfl⟩ | ⟨_,rfl,_⟩
     ·obtain ⟨cc,a,b⟩:=main _ hj; exact ⟨cc,_,a,b,.inl rfl⟩
     ·rw [List.getElem?_map] at hj
      cases QM:ys[j]? with
      | none=>rw [QM] at hj; cases hj
      | some y0 =>
       rw [QM] at hj; simp only [Option.map_some,zA] at hj
       obtain ⟨cc,a,b⟩:=main _ QM; exact ⟨cc,y0,a,b,.inr hj.symm⟩
     ·obtain ⟨cc,a,b⟩:=main _ hj; exact ⟨cc,_,a,b,.inl rfl⟩
    have hlen:ys'.length=cs.length:=by
     have:=(kB h3).1
     rcases h4 with ⟨_,rfl,_⟩ | ⟨_,rfl⟩ | ⟨_,rfl,_⟩
     ·exact this
     ·simpa using this
     ·exact this
    have PZ:acl y=ys':=by rcases h1 with ⟨_,rfl⟩ | ⟨_,_,_,rfl,_,rfl⟩<;>rfl
    have one:∀ (j:Nat) (cc:Cv) (y y':Ct) (uv:Value),cs[j]? =some cc->c.m.ct cc=some y->ys'[j]? =some y'->(y'=y\/y'=mL y)->bq S.lk γ cc uv->cellAt u j=uv ->
      bq (entry c.g c.ar.cf c.cH).lk (c.gh X γ w args) (tW (100000+P*64+j) y') uv:=by
     intro j cc y0 y' uv hc de QM Wo zZ QP
     have Ni:j<64:=by have:=(zU.1 hc).1; omega
     refine yD h.rel zZ de Wo fun τ xs e1=>⟨tR (.inl ⟨P,y,hy,.inl ⟨j,τ,xs,by rw [PZ,QM,e1],rfl,rfl⟩⟩),?_⟩
     show uv=c.rv γ w args (100000+P*64+j)
     rw [c.E5 γ w args P j Ni hP,Qe,QP]
    rcases h1 with ⟨rfl,rfl⟩ | ⟨c1,y1,rfl,rfl,rfl,rfl⟩
    ·obtain ⟨us,rfl,Cc⟩:=vP
     refine ⟨us,rfl,ca.vJ (by rw [sH,hlen]; exact Cc.length) fun j x uv Wh Hv=> ?_⟩
     rw [AG] at Wh
     cases QM:ys'[j]? with
     | none=>rw [QM] at Wh; cases Wh
     | some y' =>
      rw [QM] at Wh; simp only [Option.map_some,zA,Nat.add_zero] at Wh; subst Wh
      obtain ⟨cc,y0,hc,de,Wo⟩:=eG j y' QM
      obtain ⟨uv',Yj,zZ⟩:=Cc.get hc
      rw [Hv] at Yj; cases Yj
      exact one j cc y0 y' uv hc de QM Wo zZ (by simp [cellAt,Value.cells,List.getD,Hv])
    ·obtain ⟨cc,y0,hc,de,Wo⟩:=eG 0 y1 rfl
     simp only [List.getElem?_cons_zero,zA] at hc; subst hc
     by_cases FF:c1= .un
     ·subst FF
      simp only [Lk.ct,zA] at de; subst de
      have:y1= .u:=by rcases Wo with h | h<;>simpa [mL] using h
      subst this; exact trivial
     ·have zZ:=bk.to vP FF
      have h1c:=Dw (zZ.one h.rel)
      exact bk.of (one 0 c1 y0 y1 u rfl de rfl Wo zZ (by simp [cellAt,h1c]))
end Go.Soft
namespace Go.Soft
open Go
variable {X:Ctx} {m M:Lk} {γ γ':Gh} {w w':World} {ρ:Operand->Value} {S:St} {δ:Dl}
inductive dY (X:Ctx) (I:Prop) (A:Nat->Prop) (O:OM) (w:World):List (Nat×Row)->List (Nat×(Value×List Value))->List (Nat×(Nat×Nat))->Prop
 | nil:dY X I A O w [] [] []
 | own {k1 k:Nat} {row:Row} {v:Value} {cs:List Value} {rs:List (Nat×Row)} {V:List (Nat×(Value×List Value))} {G:List (Nat×(Nat×Nat))}:cP X O w k1 row v cs->(row.ow=3\/row.ow=4\/row.ow=5) ->
   dY X I A O w rs V G->dY X I A O w ((k,row)::rs) ((k,(v,cs))::V) ((k1,(k,row.ow))::G)
 | emp {k d:Nat} {τ:Ty} {rs:List (Nat×Row)} {V:List (Nat×(Value×List Value))} {G:List (Nat×(Nat×Nat))}:dY X I A O w rs V G ->
   dY X I A O w ((k,⟨τ,[],d⟩)::rs) ((k,(.slice none 0 0,[]))::V) G
 | ly {k:Nat} {τ:Ty} {xs:List (El τ)} {v:Value} {cs:List Value} {rs:List (Nat×Row)} {V:List (Nat×(Value×List Value))} {G:List (Nat×(Nat×Nat))}:I->vO A w τ xs v cs->dY X I A O w rs V G ->
   dY X I A O w ((k,⟨τ,xs,1⟩)::rs) ((k,(v,cs))::V) G
section
variable {I:Prop} {A:Nat->Prop} {O O':OM} {rs rs':List (Nat×Row)} {V V':List (Nat×(Value×List Value))} {G G':List (Nat×(Nat×Nat))}
theorem dY.keys (h:dY X I A O w rs V G):keys V=keys rs:=by
 induction h with
 | nil=>rfl
 | own _ _ _ ih=>simp [Soft.keys,ih]
 | emp _ ih=>simp [Soft.keys,ih]
 | ly _ _ _ ih=>simp [Soft.keys,ih]
theorem dY.append (h:dY X I A O w rs V G) (h':dY X I A O w rs' V' G'):dY X I A O w (rs++rs') (V++V') (G++G'):=by
 induction h with
 | nil=>exact h'
 | own a b _ ih=>exact .own a b ih
 | emp _ ih=>exact .emp ih
 | ly a b _ ih=>exact .ly a b ih
theorem dY.row (h:dY X I A O w rs V G) {a:Rb} (hG:∀ p∈G,a.r p.1=some p.2)
  (gM:∀ g o r ow,w.heap[g]? =some o->(ow=3\/ow=4\/ow=5)->Q6 r ow (O g)->O' g=(O g).bind a.f) (SU:I->∀ g o,w.heap[g]? =some o->A g->In .mT (O' g)) :
  ∀ k row,lk rs k=some row->∃ v cs,lk V k=some (v,cs)/\cP X O' w k row v cs:=by
 induction h with
 | nil=>intro k row h; simp [lk] at h
 | own hr ho _ ih =>
  rename_i k1 k0 row0 v cs _ _ _ _
  intro k row h
  simp only [lk] at h ⊢
  cases hk:Nat.beq k0 k with
  | false=>simp only [hk] at h ⊢; exact ih (fun p hp=>hG p (zJ _ hp)) k row h
  | true =>
   simp only [hk,zA] at h ⊢; subst h
   have:=aG hk; subst this
   refine ⟨v,cs,rfl,?_⟩
   exact hr.relabel (a:=a) (fun _=>hG _ zO) (NX (by omega)) (fun g o hg hi=>⟨hg,gM g o k1 _ hg ho hi⟩)
 | emp _ ih =>
  rename_i k0 d τ _ _ _ _
  intro k row h
  simp only [lk] at h ⊢
  cases hk:Nat.beq k0 k with
  | false=>simp only [hk] at h ⊢; exact ih hG k row h
  | true =>
   simp only [hk,zA] at h ⊢; subst h
   exact ⟨_,_,rfl,cP.nil _ _ _ _ _ _⟩
 | ly hI hv _ ih =>
  rename_i k0 τ xs v cs _ _ _ _
  intro k row h
  simp only [lk] at h ⊢
  cases hk:Nat.beq k0 k with
  | false=>simp only [hk] at h ⊢; exact ih hG k row h
  | true =>
   simp only [hk,zA] at h ⊢; subst h
   exact ⟨_,_,rfl,(hv.mono fun g o hg ha=>⟨hg,SU hI g o hg ha⟩).H3⟩
end
structure Fits (m':Lk) (γ':Gh) (rs:List (Nat×Row)) (V:List (Nat×(Value×List Value))):Prop where
 r:∀ k row,(k,row)∈rs->∃ row,m'.r k=some row
 v:∀ k v cs,(k,(v,cs))∈V->γ'.rv k=v
theorem Fits.left {m':Lk} {rs rs':List (Nat×Row)} {V V':List (Nat×(Value×List Value))} (h:Fits m' γ' (rs++rs') (V++V')):Fits m' γ' rs V :=
 ⟨fun k row hm=>h.r k row (List.mem_append_left _ hm),fun k v cs hm=>h.v k v cs (List.mem_append_left _ hm)⟩
theorem Fits.right {m':Lk} {rs rs':List (Nat×Row)} {V V':List (Nat×(Value×List Value))} (h:Fits m' γ' (rs++rs') (V++V')):Fits m' γ' rs' V' :=
 ⟨fun k row hm=>h.r k row (List.mem_append_right _ hm),fun k v cs hm=>h.v k v cs (List.mem_append_right _ hm)⟩
theorem Fits.tail {m':Lk} {p:Nat×Row} {q:Nat×(Value×List Value)} {rs:List (Nat×Row)} {V:List (Nat×(Value×List Value))} (h:Fits m' γ' (p::rs) (q::V)):Fits m' γ' rs V :=
 ⟨fun k row hm=>h.r k row (zJ _ hm),fun k v cs hm=>h.v k v cs (zJ _ hm)⟩
theorem Fits.head {m':Lk} {k:Nat} {row:Row} {v:Value} {cs:List Value} {rs:List (Nat×Row)} {V:List (Nat×(Value×List Value))} (h:Fits m' γ' ((k,row)::rs) ((k,(v,cs))::V)):bq m' γ' (.sw k) v :=
 ⟨h.r k row zO,(h.v k v cs zO).symm⟩
theorem bL.HH.Xu {c:bL} {args:List Value} (h:c.HH X S γ w args) {p j:Nat} (hj:j<64) (fM:100000+p*64+j<200000) {row:Row} (hr:(entry c.g c.ar.cf c.cH).lk.r (100000+p*64+j)=some row) :
  ∃ cc,Rn c.ja p j=some cc/\bq S.lk γ cc (c.rv γ w args (100000+p*64+j))/\c.m.ct cc=some (.l row.τ row.xs):=by
 rcases JL hr with ⟨P,x,hx,hA⟩ | ⟨k,l,j',τ,xs,hl,M4,hk,_⟩
 ·obtain ⟨v,u,hv,hu,Qe,vP,hP,Zh⟩:=h.arg hx
  rcases hA with ⟨j',τ,xs,M4,hk,rfl⟩ | ⟨τ,xs,rfl,hk,rfl⟩
  ·cases Zh with
   | val h1 h2 h3 h4 =>
    rename_i cs ys ys'
    have PZ:acl x=ys':=by rcases h1 with ⟨_,rfl⟩ | ⟨_,_,_,rfl,_,rfl⟩<;>rfl
    rw [PZ] at M4
    have hlen:ys.length=cs.length:=(kB h3).1
    have Ni:j'<64:=by
     have h5:=(zU.1 M4).1
     rcases h4 with ⟨_,rfl,_⟩ | ⟨_,rfl⟩ | ⟨_,rfl,_⟩
     ·omega
     ·simp at h5; omega
     ·omega
    obtain ⟨rfl,rfl⟩:p=P/\j=j':=by omega
    have VC:ys[j]? =some (.l τ xs):=by
     rcases h4 with ⟨_,rfl,_⟩ | ⟨_,rfl⟩ | ⟨_,rfl,_⟩
     ·exact M4
     ·rw [List.getElem?_map] at M4
      cases hy:ys[j]? with
      | none=>rw [hy] at M4; cases M4
      | some y=>rw [hy] at M4; cases y<;>simp [mL] at M4
     ·exact M4
    obtain ⟨cc,hc,de⟩:=(kB h3).2 j _ VC
    rcases E2 h.rel h1 vP with ⟨rfl,rfl⟩ | Cc
    ·cases j<;>simp at hc; subst hc; simp [Lk.ct] at de
    ·obtain ⟨uv,Hv,zZ⟩:=Cc.get hc
     refine ⟨cc,?_,?_,de⟩
     ·simp only [Rn,ic,hv]
      rcases h1 with ⟨rfl,_⟩ | ⟨c1,y1,rfl,_,rfl,_⟩
      ·exact hc
      ·cases j with
       | zero=>exact hc
       | succ j=>simp at hc
     ·rw [c.E5 γ w args p j hj hP,Qe,show cellAt u j=uv by simp [cellAt,List.getD,Hv]]
      exact zZ
   | _=>simp [acl] at M4
  ·omega
 ·omega
theorem Ar {c:bL} {args:List Value} (h:c.HH X S γ w args) {K:List Nat} {O:OM} {w1:World} {d:Nat} {y:Rc} {v:Value} {ks:List Nat}
  (hy:rJ X (entry c.g c.ar.cf c.cH).lk (c.gh X γ w args) K O w1 d y v ks) {x:Cv} (hx:pK c.ja y=some x):ks=[]/\bq S.lk γ x v:=by
 cases y with
 | c y=>simp [pK] at hx
 | m y=>simp [pK] at hx
 | un=>simp only [pK,zA] at hx; subst hx; exact hy
 | aw p j =>
  obtain ⟨rfl,row,hj,fM,hr,rfl⟩:=hy
  obtain ⟨cc,h1,h2,_⟩:=h.Xu hj fM hr
  simp only [pK] at hx
  rw [h1] at hx; cases hx
  exact ⟨rfl,h2⟩
 | al p j e cc =>
  obtain ⟨rfl,row,τ,ys,hj,fM,hr,he,hc,hv⟩:=hy
  obtain ⟨c1,h1,h2,h3⟩:=h.Xu hj fM hr
  have xj:=h.pre.rel.rs _ row hr
  obtain ⟨u',oU,eG⟩:=xj.rG e cc _ he hc
  have SO:(c.gh X γ w args).cv (100000+p*64+j)=c.cv X γ w args (100000+p*64+j):=rfl
  rw [hv] at oU; cases oU
  have gZ:v.oneCell'=true:=eG.2.zb.Ja.one
  have TJ:=J6 h3
  refine ⟨rfl,?_⟩
  simp only [pK,h1] at hx
  cases c1 with
  | sw r =>
   simp only [zA] at hx; subst hx
   simp only [Lk.vw] at TJ
   cases K1:c.m.r r with
   | none=>simp [K1,Vw.ct] at TJ
   | some row2 =>
    simp only [K1,Vw.ct,zA,Ct.l.injEq] at TJ
    obtain ⟨e1,e2⟩:=TJ
    obtain ⟨τ1,xs1,ow1⟩:=row
    obtain ⟨τ2,xs2,ow2⟩:=row2
    simp only at e1 e2
    subst e1
    have e2:=eq_of_heq e2
    subst e2
    have fL:=h.le.r r _ K1
    have xp:c.rv γ w args (100000+p*64+j)=γ.rv r:=h2.2
    have cm:=xj.top.zb
    have K7:=(h.rel.rs r _ fL).top.zb
    have iX:(c.gh X γ w args).cv (100000+p*64+j)=γ.cv r:=by
     have acr:(c.gh X γ w args).rv (100000+p*64+j)=γ.rv r:=xp
     rw [acr] at cm
     exact wS cm K7
    exact ⟨_,τ,ys,fL,he,hc,by rw [← iX]; exact hv⟩
  | sl r off n =>
   simp only [zA] at hx; subst hx
   simp only [Lk.vw] at TJ
   cases K1:c.m.r r with
   | none=>simp [K1,Vw.ct] at TJ
   | some row2 =>
    simp only [K1,Vw.ct,zA,Ct.l.injEq] at TJ
    obtain ⟨e1,e2⟩:=TJ
    obtain ⟨τ1,xs1,ow1⟩:=row
    obtain ⟨τ2,xs2,ow2⟩:=row2
    simp only at e1 e2
    subst e1
    have e2:=eq_of_heq e2
    subst e2
    have fL:=h.le.r r _ K1
    obtain ⟨row',cz,hle,rZ⟩:=h2
    rw [fL] at cz; cases cz
    have cm:=xj.top.zb
    have K7:=(h.rel.rs r _ fL).top.zb.sub hle rZ
    have hl:=kG xs2 hle
    simp only at cm he hc hv K7 hle
    rw [hl] at cm he
    have iX:(c.gh X γ w args).cv (100000+p*64+j)=((γ.cv r).drop (off*sz τ2)).take (n*sz τ2):=wS cm K7
    rw [iX] at hv
    have bQ:(cells τ2 ((sub xs2 off n).getD e (ch τ2)))[cc]? =some (.l τ ys):=hc
    rw [sR xs2 _ he] at bQ
    have lD:cc<sz τ2:=by
     have:=(zU.1 bQ).1
     rwa [bd] at this
    have abT:e*sz τ2+cc<n*sz τ2:=by
     have:=zP (sz τ2) (show e+1<=n from he)
     rw [Nat.add_mul] at this; omega
    rw [List.getElem?_take,if_pos abT,List.getElem?_drop] at hv
    refine ⟨_,τ,ys,fL,by simp only; omega,bQ,?_⟩
    show (γ.cv r)[(off+e)*sz τ2+cc]? =some v
    rw [← hv]; congr 1; rw [Nat.add_mul]; omega
  | _=>simp only [zA] at hx; subst hx; exact gZ
theorem p5:∀ (l:List Rc),L0 l=l.length
 | []=>rfl
 | _::l=>by simp [L0,p5 l]
theorem Dn {m':Lk} {y:Ct} {x:Cv} (h:kz y=some x) {v:Value} (hv:(y= .u/\v.oneCell'=true)\/(y≠ .u/\v=gu y)):bq m' γ' x v:=by
 cases y with
 | l τ xs=>simp [kz] at h
 | u =>
  simp only [kz,zA] at h; subst h
  rcases hv with ⟨_,h⟩ | ⟨h,_⟩
  ·exact h
  ·exact absurd rfl h
 | _ =>
  simp only [kz,zA] at h; subst h
  rcases hv with ⟨h,_⟩ | ⟨_,h⟩
  ·cases h
  ·exact h
def Ob (X:Ctx) (S:St) (γ:Gh) (I:Prop) (A:Nat->Prop) (O:OM) (w1:World) (f:Cv->Cv) (k n:Nat) (ks:List Nat) (rs:List (Nat×Row)) (Q:Lk->Gh->Prop):Prop :=
 ∃ V G,keys G=ks/\dY X I A O w1 rs V G/\(∀ x∈keys rs,k<=x/\x<k+n) /\
  ∀ m' γ',Fits m' γ' rs V->(∀ x v,bq S.lk γ x v->bq m' γ' (f x) v)->Q m' γ'
theorem wF {c:bL} {args:List Value} (h:c.HH X S γ w args) {K:List Nat} {O:OM} {w1:World} {f:Cv->Cv} {ms:List Nat} {ys:List Rc} {us:List Value} {ks:List Nat}
  (hr:m6 X (entry c.g c.ar.cf c.cH).lk (c.gh X γ w args) K O w1 ms ys us ks):∀ {k:Nat} {cs:List Cv} {rs:List (Nat×Row)},kX f c.ja c.ar.ly k ms ys=some (cs,rs) ->
  Ob X S γ (c.ar.ly=true) (fun g=>∃ r,r∉K/\MA r (O g)) O w1 f k ys.length ks rs fun m' γ'=>ca m' γ' cs us:=by
 induction hr with
 | nil =>
  intro k cs rs h
  simp only [kX,zA,zG] at h; obtain ⟨rfl,rfl⟩:=h
  exact ⟨[],[],rfl,.nil,by simp [keys],fun _ _ _ _=> .nil⟩
 | cons hy _ ih =>
  rename_i ms y v k1 ys vs ks _
  intro k cs rs bS
  simp only [kX] at bS
  cases eB:kX f c.ja c.ar.ly (k+1) (tl ms) ys with
  | none=>simp [eB] at bS
  | some p =>
   obtain ⟨cs',rs'⟩:=p
   simp only [eB] at bS
   obtain ⟨V,G,hG,hN,hK,hQ⟩:=ih eB
   have lift:∀ x∈keys rs',k<=x/\x<k+(ys.length+1):=fun x hx=>by have:=hK x hx; omega
   have plain:∀ (x:Cv),k1=[]->cs=x::cs'->rs=rs'->(∀ m' γ',(∀ x v,bq S.lk γ x v->bq m' γ' (f x) v)->bq m' γ' x v) ->
     Ob X S γ (c.ar.ly=true) (fun g=>∃ r,r∉K/\MA r (O g)) O w1 f k (ys.length+1) (k1++ks) rs fun m' γ'=>ca m' γ' cs (v::vs):=by
    rintro x rfl rfl rfl hx
    exact ⟨V,G,by simpa using hG,hN,lift,fun m' γ' hF hk=> .cons (hx m' γ' hk) (hQ m' γ' hF hk)⟩
   cases y with
   | m y =>
    obtain ⟨rfl,gZ,mh⟩:=hy
    cases y with
    | l τ xs =>
     simp only at bS
     cases hi:c.ar.ly with
     | true =>
      simp only [hi,zA,zG] at bS
      obtain ⟨rfl,rfl⟩:=bS
      obtain ⟨cv,mh⟩:=mh
      refine ⟨(k,(v,cv))::V,G,by simpa using hG,.ly rfl mh (by rw [hi] at hN; exact hN),fun x hx=> ?_,fun m' γ' hF hk=> .cons hF.head (hQ m' γ' hF.tail hk)⟩
      simp only [keys,zI] at hx
      rcases hx with rfl | hx
      ·simp
      ·exact lift x hx
     | false =>
      simp only [hi,zA,zG] at bS
      rw [← hi]
      exact plain .un rfl bS.1.symm bS.2.symm (fun _ _ _=>gZ)
    | u =>
     simp only [kz,zA,zG] at bS
     exact plain _ rfl bS.1.symm bS.2.symm (fun _ _ _=>gZ)
    | b x =>
     simp only [kz,zA,zG] at bS
     exact plain _ rfl bS.1.symm bS.2.symm (fun _ _ _=>mh)
    | i a n =>
     simp only [kz,zA,zG] at bS
     exact plain _ rfl bS.1.symm bS.2.symm (fun _ _ _=>mh)
    | s x =>
     simp only [kz,zA,zG] at bS
     exact plain _ rfl bS.1.symm bS.2.symm (fun _ _ _=>mh)
   | c y =>
    cases y with
    | l τ xs =>
     simp only [zA,zG] at bS
     obtain ⟨rfl,rfl⟩:=bS
     obtain ⟨MT,rE⟩:=hy
     have iY:∀ x∈keys ((k,(⟨τ,xs,w5 (hd ms)⟩:Row))::rs'),k<=x/\x<k+(ys.length+1):=fun x hx=>by
      simp only [keys,zI] at hx
      rcases hx with rfl | hx
      ·simp
      ·exact lift x hx
     rcases rE with ⟨rfl,rfl,rfl⟩ | ⟨key,cv,rfl,bo⟩
     ·exact ⟨(k,(.slice none 0 0,[]))::V,G,by simpa using hG,.emp hN,iY,fun m' γ' hF hk=> .cons hF.head (hQ m' γ' hF.tail hk)⟩
     ·have MT:rT (hd ms)=true:=MT.resolve_right (by simp)
      have hw:w5 (hd ms)=hd ms:=by rcases lY MT with h | h | h<;>rw [h]<;>rfl
      rw [hw] at iY ⊢
      exact ⟨(k,(v,cv))::V,(key,(k,hd ms))::G,by simp [keys,hG],.own bo (lY MT) hN,iY,fun m' γ' hF hk=> .cons hF.head (hQ m' γ' hF.tail hk)⟩
    | u =>
     simp only [kz,zA,zG] at bS
     exact plain _ hy.1 bS.1.symm bS.2.symm (fun _ _ _=>hy.2)
    | b x =>
     simp only [kz,zA,zG] at bS
     exact plain _ hy.1 bS.1.symm bS.2.symm (fun _ _ _=>hy.2)
    | i a n =>
     simp only [kz,zA,zG] at bS
     exact plain _ hy.1 bS.1.symm bS.2.symm (fun _ _ _=>hy.2)
    | s x =>
     simp only [kz,zA,zG] at bS
     exact plain _ hy.1 bS.1.symm bS.2.symm (fun _ _ _=>hy.2)
   | al p j e cc =>
    simp only at bS
    cases ha:pK c.ja (.al p j e cc) with
    | none=>simp [ha] at bS
    | some x =>
     simp only [ha,zA,zG] at bS
     obtain ⟨h1,h2⟩:=Ar h hy ha
     exact plain _ h1 bS.1.symm bS.2.symm (fun _ _ hk=>hk x v h2)
   | aw p j =>
    simp only at bS
    cases ha:pK c.ja (.aw p j) with
    | none=>simp [ha] at bS
    | some x =>
     simp only [ha,zA,zG] at bS
     obtain ⟨h1,h2⟩:=Ar h hy ha
     exact plain _ h1 bS.1.symm bS.2.symm (fun _ _ hk=>hk x v h2)
   | un =>
    simp only at bS
    cases ha:pK c.ja .un with
    | none=>simp [ha] at bS
    | some x =>
     simp only [ha,zA,zG] at bS
     obtain ⟨h1,h2⟩:=Ar h hy ha
     exact plain _ h1 bS.1.symm bS.2.symm (fun _ _ hk=>hk x v h2)
theorem NQ {c:bL} {args:List Value} (h:c.HH X S γ w args) {K:List Nat} {O:OM} {w1:World} {f:Cv->Cv} {ms:List (List Nat)} {ys:List (Bool×List Rc)} {us:List Value} {ks:List Nat}
  (hr:qM X (entry c.g c.ar.cf c.cH).lk (c.gh X γ w args) K O w1 ms ys us ks):∀ {k:Nat} {ts:List (Bool×List Cv)} {rs:List (Nat×Row)},rK f c.ja c.ar.ly k ms ys=some (ts,rs) ->
  Ob X S γ (c.ar.ly=true) (fun g=>∃ r,r∉K/\MA r (O g)) O w1 f k (Mu ys) ks rs fun m' γ'=>sb m' γ' ts us:=by
 induction hr with
 | nil =>
  intro k cs rs h
  simp only [rK,zA,zG] at h; obtain ⟨rfl,rfl⟩:=h
  exact ⟨[],[],rfl,.nil,by simp [keys],fun _ _ _ _=> .nil⟩
 | cons hy hb1 YE _ ih =>
  rename_i ms b l us v k1 ys vs ks _
  intro k ts rs bS
  simp only [rK] at bS
  cases h1:kX f c.ja c.ar.ly k (nJ ms) l with
  | none=>simp [h1] at bS
  | some p =>
   cases h2:rK f c.ja c.ar.ly (k+l.length) (tl ms) ys with
   | none=>simp [h1,h2] at bS
   | some q =>
    obtain ⟨cs1,rs1⟩:=p
    obtain ⟨ts2,rs2⟩:=q
    simp only [h1,h2,zA,zG] at bS
    obtain ⟨rfl,rfl⟩:=bS
    obtain ⟨V1,G1,g1,n1,k1',q1⟩:=wF h hy h1
    obtain ⟨V2,G2,g2,n2,k2',q2⟩:=ih h2
    refine ⟨V1++V2,G1++G2,by rw [bA,g1,g2],n1.append n2,fun x hx=> ?_,fun m' γ' hF hk=> .cons ⟨us,q1 m' γ' hF.left hk,hb1,YE⟩ (q2 m' γ' hF.right hk)⟩
    rw [bA,zH] at hx
    simp only [Mu,p5]
    rcases hx with hx | hx
    ·have:=k1' x hx; omega
    ·have:=k2' x hx; omega
theorem tD:∀ (n k x:Nat),x∈Ui k n↔k<=x/\x<k+n
 | 0,k,x=>by simp [Ui]
 | n+1,k,x=>by simp only [Ui,zI,tD n (k+1) x]; omega
theorem bL.Ok.own {c:bL} (h:c.Ok):keys (nV c.m 0 c.g.vl c.ar.κ)=c.ow/\∀ (k v:Nat),c.ar.κ[k]? =some v->∃ cs,c.m.v v=some cs/\∀ j cc,cs[j]? =some cc ->
  GL c.m (·∈c.b) (fun r x d=>(r,(x,d))∈nV c.m 0 c.g.vl c.ar.κ) (300000+k*64+j) (md (LB c.g.vl k) j) cc:=by
 have hh:=h.hand
 simp only [Lk.sF] at hh
 cases ho:c.m.eJ c.g.vl c.ar.κ with
 | none=>simp [ho] at hh
 | some p =>
  obtain ⟨ow,b⟩:=p
  have hb:ow=c.ow/\b=c.b:=by
   simp only [ho] at hh
   revert hh; split
   ·intro hh; simp only [zA,zG] at hh; exact hh
   ·intro hh; cases hh
  obtain ⟨h1,h2⟩:=mu (k0:=0) ho
  rw [hb.1] at h1
  rw [hb.2] at h2
  refine ⟨h1,fun k v hk=> ?_⟩
  obtain ⟨cs,h3,h4⟩:=h2 k v hk
  refine ⟨cs,h3,fun j cc hc=> ?_⟩
  have:=h4 j cc hc
  rwa [Nat.zero_add] at this
theorem x7 (v:Nat):∀ (cs:List Cv) (j x:Nat),x∈homes v j cs↔∃ i,i<cs.length/\x=1000000+v*64+j+i
 | [],j,x=>by simp [homes]
 | c::cs,j,x=>by
  simp only [homes,zI,x7 v cs (j+1) x,zR]
  constructor
  ·rintro (rfl | ⟨i,h1,rfl⟩)
   ·exact ⟨0,by omega,by omega⟩
   ·exact ⟨i+1,by omega,by omega⟩
  ·rintro ⟨i,h1,rfl⟩
   cases i with
   | zero=>left; omega
   | succ i=>exact .inr ⟨i,by omega,by omega⟩
theorem yI:∀ {κ:List Nat} {v x:Nat} {cs:List Cv},v∈κ->m.v v=some cs->x∈homes v 0 cs->x∈m.lu κ
 | [],v,x,cs,h,_,_=>by simp at h
 | u::κ,v,x,cs,h,hv,hx=>by
  simp only [Lk.lu,zH]
  rcases zI.1 h with rfl | h
  ·left; rw [hv]; exact hx
  ·exact .inr (yI h hv hx)
theorem BW:∀ {κ:List Nat} {x:Nat},x∈m.lu κ->1000000<=x
 | [],x,h=>by simp [Lk.lu] at h
 | u::κ,x,h=>by
  simp only [Lk.lu,zH] at h
  rcases h with h | h
  ·cases hu:m.v u with
   | none=>rw [hu] at h; simp at h
   | some cs=>rw [hu] at h; obtain ⟨i,_,rfl⟩:=(x7 u cs 0 x).1 h; omega
  ·exact BW h
theorem FR {I:Prop} {A:Nat->Prop} {γ0:Gh} {O:OM} {w1:World} {f:Cv->Cv} {v key:Nat} {ms:List Nat} {ys:List Ct} {us:List Value} {ks:List Nat} (hr:pH X γ0 O w1 key ms ys us ks) :
  ∀ {j:Nat} {cs cs':List Cv} {rs:List (Nat×Row)},dW f v j ms cs ys=some (cs',rs)->(∀ (i:Nat) (cc:Cv),cs[i]? =some cc->md ms i=1->bq S.lk γ cc (γ0.rv (key+i))) ->
   ∃ V G,keys G=ks/\dY X I A O w1 rs V G/\(∀ x∈keys rs,(∃ i,cs[i]? =some (.sw x)/\md ms i≠0/\md ms i≠1)\/∃ i,i<cs.length/\x=1000000+v*64+j+i) /\
    (∀ p∈rs,rT p.2.ow=true) /\
    ∀ m' γ',Fits m' γ' rs V->(∀ x v,bq S.lk γ x v->bq m' γ' (f x) v)->ca m' γ' cs' us:=by
 induction hr with
 | nil =>
  intro j cs cs' rs h _
  cases cs with
  | nil=>simp only [dW,zA,zG] at h; obtain ⟨rfl,rfl⟩:=h; exact ⟨[],[],rfl,.nil,by simp [keys],by simp,fun _ _ _ _=> .nil⟩
  | cons=>simp [dW] at h
 | cons hy _ ih =>
  rename_i key ms y u a ys us ks _
  intro j cs cs' rs h gZ
  cases cs with
  | nil=>simp [dW] at h
  | cons c cs =>
   simp only [dW] at h
   cases eB:dW f v (j+1) (tl ms) cs ys with
   | none=>simp [eB] at h
   | some p =>
    obtain ⟨cs2,rs2⟩:=p
    simp only [eB] at h
    obtain ⟨V,G,hG,hN,hK,hO,hQ⟩:=ih eB (fun i cc hc hm=>by rw [yJ] at hm; have:=gZ (i+1) cc (by simpa using hc) hm; rwa [show key+(i+1)=key+1+i by omega] at this)
    have lift:∀ x∈keys rs2,(∃ i,(c::cs)[i]? =some (.sw x)/\md ms i≠0/\md ms i≠1)\/∃ i,i<(c::cs).length/\x=1000000+v*64+j+i:=by
     intro x hx
     rcases hK x hx with ⟨i,h1,h2,h3⟩ | ⟨i,h1,h2⟩
     ·exact .inl ⟨i+1,by simpa using h1,by rwa [yJ] at h2,by rwa [yJ] at h3⟩
     ·exact .inr ⟨i+1,by simp; omega,by omega⟩
    have plain:∀ x,a=[]->cs'=x::cs2->rs=rs2->(∀ m' γ',(∀ x v,bq S.lk γ x v->bq m' γ' (f x) v)->bq m' γ' x u) ->
      ∃ V G,keys G=a++ks/\dY X I A O w1 rs V G/\(∀ x∈keys rs,(∃ i,(c::cs)[i]? =some (.sw x)/\md ms i≠0/\md ms i≠1)\/∃ i,i<(c::cs).length/\x=1000000+v*64+j+i) /\
       (∀ p∈rs,rT p.2.ow=true)/\∀ m' γ',Fits m' γ' rs V->(∀ x v,bq S.lk γ x v->bq m' γ' (f x) v)->ca m' γ' cs' (u::us):=by
     rintro x rfl rfl rfl hx
     exact ⟨V,G,by simpa using hG,hN,lift,hO,fun m' γ' hF hk=> .cons (hx m' γ' hk) (hQ m' γ' hF hk)⟩
    have ace:hd ms=0\/hd ms=1\/∃ n,hd ms=n+2:=by
     rcases hn:hd ms with _ | _ | n
     ·exact .inl rfl
     ·exact .inr (.inl rfl)
     ·exact .inr (.inr ⟨n,rfl⟩)
    rcases ace with h0 | h1 | ⟨n,HO⟩
    ·simp only [te,h0] at hy h
     obtain ⟨rfl,rfl,zX⟩:=hy
     cases hf:kz y with
     | none=>simp [hf] at h
     | some x =>
      simp only [hf,zA,zG] at h
      refine plain x rfl h.1.symm h.2.symm (fun m' γ' _=>Dn hf (.inr ⟨?_,rfl⟩))
      rintro rfl; exact zX
    ·simp only [te,h1] at hy h
     simp only [zA,zG] at h
     obtain ⟨rfl,rfl⟩:=hy
     have:=gZ 0 c rfl h1
     rw [Nat.add_zero] at this
     exact plain (f c) rfl h.1.symm h.2.symm (fun m' γ' hk=>hk c _ this)
    ·simp only [te,HO] at hy h
     rw [← HO] at hy
     cases y with
     | l τ xs =>
      simp only at h hy
      obtain ⟨MT,rE⟩:=hy
      have hm0:md ms 0≠0/\md ms 0≠1:=by
       rcases lY MT with h | h | h<;>rw [wJ,h]<;>decide
      have fin:∀ (kk:Nat),cs'= .sw kk::cs2->rs=(kk,(⟨τ,xs,hd ms⟩:Row))::rs2->((c= .sw kk)\/kk=1000000+v*64+j) ->
        ∃ V G,keys G=a++ks/\dY X I A O w1 rs V G/\(∀ x∈keys rs,(∃ i,(c::cs)[i]? =some (.sw x)/\md ms i≠0/\md ms i≠1)\/∃ i,i<(c::cs).length/\x=1000000+v*64+j+i) /\
         (∀ p∈rs,rT p.2.ow=true)/\∀ m' γ',Fits m' γ' rs V->(∀ x v,bq S.lk γ x v->bq m' γ' (f x) v)->ca m' γ' cs' (u::us):=by
       rintro kk rfl rfl iY
       have hK':∀ x∈keys ((kk,(⟨τ,xs,hd ms⟩:Row))::rs2),(∃ i,(c::cs)[i]? =some (.sw x)/\md ms i≠0/\md ms i≠1)\/∃ i,i<(c::cs).length/\x=1000000+v*64+j+i:=by
        intro x hx
        simp only [keys,zI] at hx
        rcases hx with rfl | hx
        ·rcases iY with rfl | rfl
         ·exact .inl ⟨0,rfl,hm0⟩
         ·exact .inr ⟨0,by simp,by omega⟩
        ·exact lift x hx
       have hO':∀ p∈(kk,(⟨τ,xs,hd ms⟩:Row))::rs2,rT p.2.ow=true:=by
        intro p hp
        rcases zI.1 hp with rfl | hp
        ·exact MT
        ·exact hO p hp
       rcases rE with ⟨rfl,rfl,rfl⟩ | ⟨k1,cv,rfl,bo⟩
       ·exact ⟨(kk,(.slice none 0 0,[]))::V,G,by simpa using hG,.emp hN,hK',hO',fun m' γ' hF hk=> .cons hF.head (hQ m' γ' hF.tail hk)⟩
       ·exact ⟨(kk,(u,cv))::V,(k1,(kk,hd ms))::G,by simp [keys,hG],.own bo (lY MT) hN,hK',hO',fun m' γ' hF hk=> .cons hF.head (hQ m' γ' hF.tail hk)⟩
      rw [← HO] at h
      revert h; split
      ·intro h; simp only [zA,zG] at h; exact fin _ h.1.symm h.2.symm (.inl rfl)
      ·intro h; simp only [zA,zG] at h; exact fin _ h.1.symm h.2.symm (.inr rfl)
     | _=>simp at h
theorem Ah {α:Type} (l:List α) (k:Nat):tl (l.drop k)=l.drop (k+1):=by
 have:∀ l:List α,tl l=l.drop 1:=by intro l; cases l<;>rfl
 rw [this,List.drop_drop]
theorem IX {c:bL} {args:List Value} (h:c.HH X S γ w args) {I:Prop} {A:Nat->Prop} {O:OM} {w1:World} {f:Cv->Cv} {k0:Nat} {ms:List (List Nat)} {vo:List (List Ct)} {ks:List Nat}
  (hr:wy X (c.gh X γ w args) O w1 k0 ms vo ks):∀ {κ':List Nat} {vs:List (Nat×List Cv)} {rs:List (Nat×Row)},(∀ (i:Nat),κ'[i]? =c.ar.κ[k0+i]?)->ms=c.g.vl.drop k0->c.m.fR f ms κ' vo=some (vs,rs) ->
   ∃ V G,keys G=ks/\dY X I A O w1 rs V G/\keys vs=κ'/\(∀ x∈keys rs,(x∈c.ow/\yV x=true)\/x∈c.m.lu c.ar.κ)/\(∀ p∈rs,rT p.2.ow=true) /\
    ∀ m' γ',Fits m' γ' rs V->(∀ x v,bq S.lk γ x v->bq m' γ' (f x) v)->∀ v cs',(v,cs')∈vs ->
     ∃ (k:Nat) (cur:Array Value) (e:TypeId),c.ar.κ[k]? =some v/\O (γ.vb v)=some (.v k)/\w1.heap[γ.vb v]? =some (.cells cur e (0,0))/\ca m' γ' cs' cur.toList:=by
 induction hr with
 | nil =>
  intro κ' vs rs hκ Nn hv
  cases κ' with
  | nil=>simp only [Lk.fR,zA,zG] at hv; obtain ⟨rfl,rfl⟩:=hv; exact ⟨[],[],rfl,.nil,rfl,by simp [keys],by simp,fun _ _ _ _ v cs' hm=>by simp at hm⟩
  | cons=>simp [Lk.fR] at hv
 | cons hO1 mS iX _ ih =>
  rename_i k0 ms l a vo ks cur e _
  intro κ' vs rs hκ Nn hv
  cases κ' with
  | nil=>simp [Lk.fR] at hv
  | cons v κ' =>
   simp only [Lk.fR] at hv
   cases D0:c.m.v v with
   | none=>simp [D0] at hv
   | some cs =>
    cases h1:dW f v 0 (nJ ms) cs l with
    | none=>simp [D0,h1] at hv
    | some p =>
     cases h2:c.m.fR f (tl ms) κ' vo with
     | none=>simp [D0,h1,h2] at hv
     | some q =>
      obtain ⟨a1,r1⟩:=p
      obtain ⟨b1,q1⟩:=q
      simp only [D0,h1,h2,zA,zG] at hv
      obtain ⟨rfl,rfl⟩:=hv
      have HN:c.ar.κ[k0]? =some v:=by have:=hκ 0; simpa using this.symm
      have FC:(c.gh X γ w args).vb k0=γ.vb v:=by show γ.vb (c.ar.κ.getD k0 0)=_; simp [List.getD,HN]
      rw [FC] at hO1 mS
      obtain ⟨XI,XH⟩:=h.ok.own
      obtain ⟨cs2,Qr,Wl⟩:=XH k0 v HN
      rw [D0] at Qr; cases Qr
      have JC:nJ ms=LB c.g.vl k0:=by rw [Nn]; rfl
      obtain ⟨_,cur0,e0,YM,abA⟩:=h.rel.vs v cs (h.le.v _ _ D0)
      obtain ⟨cs3,_,YI,_,_,VZ⟩:=(vT h.ok.ux).2 k0 v HN
      rw [D0] at YI; cases YI
      obtain ⟨V1,G1,g1,n1,k1,o1,q1'⟩:=FR (S:=S) (γ:=γ) (I:=I) (A:=A) iX h1 (fun i cc hc _=>by
       obtain ⟨uv,Hv,zZ⟩:=abA.get hc
       have:(c.gh X γ w args).rv (300000+k0*64+i)=uv:=by
        show c.rv γ w args (300000+k0*64+i)=uv
        have hil:i<64:=by have:=(zU.1 hc).1; omega
        rw [c.EP γ w args k0 i v hil HN YM]; simp only [List.getD,Hv]; rfl
       rw [this]; exact zZ)
      obtain ⟨V2,G2,g2,n2,k2,k2',o2,q2⟩:=ih (fun i=>by have:=hκ (i+1); rw [List.getElem?_cons_succ] at this; rw [this]; congr 1; omega) (by rw [Nn,Ah]) h2
      refine ⟨V1++V2,G1++G2,by rw [bA,g1,g2],n1.append n2,by simp [keys,k2],fun x hx=> ?_,fun p hp=> ?_,fun m' γ' hF hk u cs' hm=> ?_⟩
      ·rw [bA,zH] at hx
       rcases hx with hx | hx
       ·rcases k1 x hx with ⟨i,e1,e2,e3⟩ | ⟨i,e1,e2⟩
        ·rw [JC] at e2 e3
         rcases Wl i _ e1 with ⟨hd,_⟩ | ⟨_,⟨r,row,e4,_,_,e5,e6⟩ | ⟨σ,e4⟩⟩
         ·rcases hd with hd | hd
          ·exact absurd hd e2
          ·exact absurd hd e3
         ·cases e4
          exact .inl ⟨by rw [← XI]; exact mem_keys e6,e5⟩
         ·cases e4
        ·exact .inr (yI (List.mem_of_getElem? HN) D0 ((x7 v cs 0 x).2 ⟨i,e1,e2⟩))
       ·exact k2' x hx
      ·rcases zH.1 hp with hp | hp
       ·exact o1 p hp
       ·exact o2 p hp
      ·rcases zI.1 hm with hm | hm
       ·cases hm
        exact ⟨k0,cur,e,HN,hO1,mS,q1' m' γ' hF.left hk⟩
       ·exact q2 m' γ' hF.right hk u cs' hm
theorem AU (key d:Nat):∀ (cs:List Cv) (j:Nat),(∀ r,Cv.sw r∉cs)->vI key d j cs=[]
 | [],j,_=>rfl
 | c::cs,j,h=>by
  have:=AU key d cs (j+1) (fun r hr=>h r (zJ _ hr))
  cases c<;>simp only [vI]<;>first | exact this | exact absurd zO (h _)
theorem Po {c:bL} {args:List Value} (h:c.HH X S γ w args) {I:Prop} {A:Nat->Prop} {O:OM} {w1:World} {p:Nat} {cf:List AC} {ys:List Ct} {ks:List Nat}
  (hr:rM X (c.gh X γ w args) O w1 p cf ys ks):∀ {ja:List AV} {r2:List (Nat×Row)},(∀ (i:Nat),cf[i]? =c.ar.cf[p+i]?)->(∀ (i:Nat),ja[i]? =c.ja[p+i]?)->cf.length=ja.length ->
   c.m.ni (keys (Fx (c.g.am.drop p) p ja)) ys=some r2 ->
   ∃ V G,keys G=ks/\dY X I A O w1 r2 V G/\(∀ p∈r2,p.2.ow=5)/\∀ k v cs,(k,(v,cs))∈V->v=γ.rv k:=by
 induction hr with
 | nil =>
  intro ja r2 _ _ hl Cj
  cases ja with
  | cons=>simp at hl
  | nil=>simp only [Fx,keys,Lk.ni,zA] at Cj; subst Cj; exact ⟨[],[],rfl,.nil,by simp,by simp⟩
 | io bo _ ih =>
  rename_i p τ xs xs' cs l ys ks _
  intro ja r2 PR Qp hl Cj
  cases ja with
  | nil=>simp at hl
  | cons v ja =>
   have hx:c.ar.cf[p]? =some (.io τ xs):=by have:=PR 0; simpa using this.symm
   have hv0:c.ja[p]? =some v:=by have:=Qp 0; simpa using this.symm
   obtain ⟨v',u,hv,hu,Qe,vP,hP,hA⟩:=h.arg hx
   rw [hv0] at hv; cases hv
   cases hA with
   | val h1=>rcases h1 with ⟨_,h⟩ | ⟨_,_,_,h,_⟩<;>cases h
   | io h0 h9 hmr hH =>
    rename_i r
    have XR:hd (c.g.am.drop p)=9:=h9
    simp only [Fx,XR,Mn,M8,vI,bA,Ah] at Cj
    simp only [keys,List.singleton_append,List.cons_append,List.nil_append,Lk.ni,hmr] at Cj
    cases eB:c.m.ni (keys (Fx (c.g.am.drop (p+1)) (p+1) ja)) ys with
    | none=>simp [eB] at Cj
    | some q =>
     simp only [eB,Pt,zA] at Cj; subst Cj
     obtain ⟨V,G,hG,hN,h5,hV⟩:=ih (fun i=>by have:=PR (i+1); rw [List.getElem?_cons_succ] at this; rw [this]; congr 1; omega)
      (fun i=>by have:=Qp (i+1); rw [List.getElem?_cons_succ] at this; rw [this]; congr 1; omega) (by simpa using hl) eB
     have xp:(c.gh X γ w args).rv (200000+p*64)=γ.rv r:=by
      show c.rv γ w args (200000+p*64)=_
      rw [c.Oz γ w args p hP,Qe]; exact vP.2
     rw [xp] at bo
     refine ⟨(r,(γ.rv r,cs))::V,(200000+p*64,(r,5))::G,by simp [keys,hG],.own bo (.inr (.inr rfl)) hN,fun q hq=> ?_,fun k v' cs' hm=> ?_⟩
     ·rcases zI.1 hq with rfl | hq
      ·rfl
      ·exact h5 q hq
     ·rcases zI.1 hm with hm | hm
      ·cases hm; rfl
      ·exact hV k v' cs' hm
 | skip cR _ ih =>
  rename_i p x l ys ks _
  intro ja r2 PR Qp hl Cj
  cases ja with
  | nil=>simp at hl
  | cons v ja =>
   have hx:c.ar.cf[p]? =some x:=by have:=PR 0; simpa using this.symm
   have hv0:c.ja[p]? =some v:=by have:=Qp 0; simpa using this.symm
   obtain ⟨v',u,hv,hu,Qe,vP,hP,hA⟩:=h.arg hx
   rw [hv0] at hv; cases hv
   have Ht:Fx (c.g.am.drop p) p (v::ja)=Fx (c.g.am.drop (p+1)) (p+1) ja:=by
    simp only [Fx,Ah]
    cases h9:Mn (hd (c.g.am.drop p)) with
    | false=>rfl
    | true =>
     have hd9:md c.g.am p=9:=by
      have:hd (c.g.am.drop p)=9:=by
       revert h9; unfold Mn; split
       ·rename_i h; exact fun _=>h
       ·simp
      exact this
     have CU:vI (200000+p*64) 5 0 (M8 v)=[]:=by
      cases hA with
      | ptr _ _=>exact AU _ _ _ _ (by simp [M8])
      | fn _ _ _=>exact AU _ _ _ _ (by simp [M8])
      | val h1 h2 h3 h4 =>
       exfalso
       rw [hd9] at h4
       rcases h4 with ⟨h,_⟩ | ⟨h,_⟩ | ⟨h,_⟩
       ·cases h
       ·cases h
       ·simp [rT] at h
      | io h0 h1 h2 h3=>exact absurd rfl (cR _ _)
      | al h0 h8 h1 h2 h3=>rw [hd9] at h8; cases h8
     rw [CU]; rfl
   rw [Ht] at Cj
   exact ih (fun i=>by have:=PR (i+1); rw [List.getElem?_cons_succ] at this; rw [this]; congr 1; omega)
    (fun i=>by have:=Qp (i+1); rw [List.getElem?_cons_succ] at this; rw [this]; congr 1; omega) (by simpa using hl) Cj
end Go.Soft
namespace Go.Soft
open Go
variable {X:Ctx} {m M:Lk} {γ γ':Gh} {w w':World} {ρ:Operand->Value} {S:St} {δ:Dl}
theorem Q1 {c:bL} {args:List Value} (h:c.HH X S γ w args) {K:List Nat} {O:OM} {w1:World} {f:Cv->Cv} {d:Nat} {res:RC} {v:Value} {ks:List Nat}
  (hr:vH X (entry c.g c.ar.cf c.cH).lk (c.gh X γ w args) K O w1 c.g.rl res v ks) {av:AV} {rs:List (Nat×Row)} {vn:List (Nat×List Cv)} (bS:v7 f c.ja c.ar.ly c.g.rl d res=some (av,rs,vn)) :
  ∃ V G,keys G=ks/\dY X (c.ar.ly=true) (fun g=>∃ r,r∉K/\MA r (O g)) O w1 rs V G/\(∀ x∈keys rs,x∈res.keys d) /\
   ((vn=[]/\(∀ l,res≠ .np l)/\∀ m' γ',Fits m' γ' rs V->(∀ x v,bq S.lk γ x v->bq m' γ' (f x) v)->bk m' γ' av v) \/
    ∃ (l:List Rc) (cs:List Cv) (cv g:Nat) (cur:Array Value) (e:TypeId),res= .np l/\vn=[(1000+d,cs)]/\av= .c (.pv (1000+d) 0)/\1000<=cv/\v= .pointer (some ⟨g,0,none⟩)/\O g=some (.v cv) /\
     w1.heap[g]? =some (.cells cur e (0,0))/\∀ m' γ',Fits m' γ' rs V->(∀ x v,bq S.lk γ x v->bq m' γ' (f x) v)->ca m' γ' cs cur.toList):=by
 cases res with
 | u =>
  obtain ⟨rfl,rfl⟩:=hr
  simp only [v7,zA,zG] at bS
  obtain ⟨rfl,rfl,rfl⟩:=bS
  exact ⟨[],[],rfl,.nil,by simp [keys],.inl ⟨rfl,by simp,fun _ _ _ _=>⟨[],rfl,.nil⟩⟩⟩
 | c x =>
  simp only [v7] at bS
  cases h1:kX f c.ja c.ar.ly (d*64) (nJ c.g.rl) [x] with
  | none=>simp [h1] at bS
  | some p =>
   obtain ⟨cs,rs1⟩:=p
   have Wz:m6 X (entry c.g c.ar.cf c.cH).lk (c.gh X γ w args) K O w1 (nJ c.g.rl) [x] [v] (ks++[]):= .cons hr .nil
   obtain ⟨V,G,g1,g2,g3,g4⟩:=wF h Wz h1
   simp only [h1] at bS
   revert bS; split
   ·rename_i heq
    simp only [zA,zG] at heq
    obtain ⟨rfl,rfl⟩:=heq
    intro bS
    simp only [zA,zG] at bS
    obtain ⟨rfl,rfl,rfl⟩:=bS
    refine ⟨V,G,by simpa using g1,g2,fun y hy=> ?_,.inl ⟨rfl,by simp,fun m' γ' hF hk=> ?_⟩⟩
    ·have:=g3 y hy
     simp only [RC.keys,zS]
     simp at this; omega
    ·have:=g4 m' γ' hF hk
     cases this with
     | cons hx _=>exact bk.of hx
   ·intro bS; cases bS
 | a l =>
  obtain ⟨us,rfl,hr⟩:=hr
  simp only [v7] at bS
  cases h1:kX f c.ja c.ar.ly (d*64) (nJ c.g.rl) l with
  | none=>simp [h1] at bS
  | some p =>
   obtain ⟨cs,rs1⟩:=p
   simp only [h1,zA,zG] at bS
   obtain ⟨rfl,rfl,rfl⟩:=bS
   obtain ⟨V,G,g1,g2,g3,g4⟩:=wF h hr h1
   refine ⟨V,G,g1,g2,fun y hy=> ?_,.inl ⟨rfl,by simp,fun m' γ' hF hk=>⟨us,rfl,g4 m' γ' hF hk⟩⟩⟩
   simp only [RC.keys,p5,tD]; exact g3 y hy
 | t l =>
  obtain ⟨us,rfl,hr⟩:=hr
  simp only [v7] at bS
  cases h1:rK f c.ja c.ar.ly (d*64) c.g.rl l with
  | none=>simp [h1] at bS
  | some p =>
   obtain ⟨ts,rs1⟩:=p
   simp only [h1,zA,zG] at bS
   obtain ⟨rfl,rfl,rfl⟩:=bS
   obtain ⟨V,G,g1,g2,g3,g4⟩:=NQ h hr h1
   refine ⟨V,G,g1,g2,fun y hy=> ?_,.inl ⟨rfl,by simp,fun m' γ' hF hk=>⟨us,rfl,g4 m' γ' hF hk⟩⟩⟩
   simp only [RC.keys,tD]; exact g3 y hy
 | np l =>
  obtain ⟨cv,g,cur,e,SO,rfl,hO,mS,hr⟩:=hr
  simp only [v7] at bS
  cases h1:kX f c.ja c.ar.ly (d*64) (nJ c.g.rl) l with
  | none=>simp [h1] at bS
  | some p =>
   obtain ⟨cs,rs1⟩:=p
   simp only [h1,zA,zG] at bS
   obtain ⟨rfl,rfl,rfl⟩:=bS
   obtain ⟨V,G,g1,g2,g3,g4⟩:=wF h hr h1
   refine ⟨V,G,g1,g2,fun y hy=> ?_,.inr ⟨l,cs,cv,g,cur,e,rfl,rfl,rfl,SO,rfl,hO,mS,g4⟩⟩
   simp only [RC.keys,p5,tD]; exact g3 y hy
theorem xP:∀ {l:List (Nat×Row)},(keys l).Nodup->∀ k,fk (my l) k=(lk l k).map some
 | [],_,k=>rfl
 | (j,r)::l,hn,k=>by
  simp only [keys,List.nodup_cons] at hn
  simp only [my,fk,xP hn.2,lk]
  cases hj:Nat.beq j k with
  | true =>
   have:=aG hj; subst this
   rw [cG.2 hn.1]; simp
  | false =>
   have:j≠k:=by rintro rfl; rw [Nat.beq_refl] at hj; cases hj
   cases lk l k<;>simp [this]
theorem wx (a b:List (Nat×Row)):my (a++b)=my a++my b:=by
 induction a with
 | nil=>rfl
 | cons p a ih=>obtain ⟨k,r⟩:=p; simp [my,ih]
theorem Ll (l:List Nat) (k:Nat):fk (BU l) k=if k∈l then some none else none:=by
 induction l with
 | nil=>rfl
 | cons j l ih =>
  simp only [BU,fk,ih,zI]
  by_cases h:k∈l
  ·simp [h]
  ·by_cases hj:j=k
   ·subst hj; simp [h]
   ·simp [h,hj,Ne.symm hj]
theorem Kr (m:Lk):∀ (l:List Nat) (k:Nat),fk (m.S8 l) k=if k∈l then (m.r k).map (fun row=>some { row with ow:=3 }) else none
 | [],k=>rfl
 | j::l,k=>by
  have ih:=Kr m l k
  simp only [Lk.S8]
  cases hj:m.r j with
  | none =>
   simp only [ih,zI]
   by_cases h:k∈l
   ·simp [h]
   ·by_cases Fq:k=j
    ·subst Fq; simp [h,hj]
    ·simp [h,Fq]
  | some row =>
   simp only [fk,ih,zI]
   by_cases h:k∈l
   ·simp only [h,if_true,or_true]
    cases hk:m.r k with
    | some r=>rfl
    | none =>
     have:j≠k:=by rintro rfl; rw [hj] at hk; cases hk
     simp [this]
   ·by_cases Fq:j=k
    ·subst Fq; simp [h,hj]
    ·simp [h,Fq,Ne.symm Fq]
theorem pZ {α:Type} {l:List (Nat×α)} {k:Nat} (h:k∈keys l):∃ v,lk l k=some v:=by
 cases hl:lk l k with
 | some v=>exact ⟨v,rfl⟩
 | none=>exact absurd h (cG.1 hl)
theorem Pe {α:Type} {l:List (Nat×α)} {k:Nat} (h:k∈keys l):∃ v,(k,v)∈l:=by
 obtain ⟨v,hv⟩:=pZ h; exact ⟨v,cO hv⟩
theorem nI {n:Nat}:∀ {l:List Nat},sL n l=true↔∀ x∈l,x<n
 | []=>by simp [sL]
 | y::l=>by
  simp only [sL,zB,nI,zI,forall_eq_or_imp]
  have:Nat.blt y n=true↔y<n:=by
   show Nat.ble (y+1) n=true↔y<n
   exact ⟨fun h=>zQ h,fun h=>Nat.ble_eq_true_of_le h⟩
  rw [this]
theorem Ka {f:Cv->Cv} {v key:Nat}:∀ {cs:List Cv} {ms:List Nat} {j j':Nat} {ys:List Ct} {cs':List Cv} {rs:List (Nat×Row)},dW f v j ms cs ys=some (cs',rs)->∀ x∈keys (zq key ms j' cs),x∈keys rs
 | [],ms,j,j',ys,cs',rs,h,x,hx=>by simp [zq,keys] at hx
 | c::cs,ms,j,j',ys,cs',rs,h,x,hx=>by
  cases ys with
  | nil=>simp [dW] at h
  | cons y ys =>
   simp only [dW] at h
   cases eB:dW f v (j+1) (tl ms) cs ys with
   | none=>simp [eB] at h
   | some p =>
    obtain ⟨cs2,rs2⟩:=p
    simp only [eB] at h
    have ih:=Ka (key:=key) (j':=j'+1) eB
    simp only [zq,bA,zH] at hx
    rcases hn:hd ms with _ | _ | n
    ·simp only [hn] at h hx
     cases hf:kz y with
     | none=>simp [hf] at h
     | some z =>
      simp only [hf,zA,zG] at h
      rw [← h.2]
      rcases hx with hx | hx
      ·simp [keys] at hx
      ·exact ih x hx
    ·simp only [hn,zA,zG] at h hx
     rw [← h.2]
     rcases hx with hx | hx
     ·simp [keys] at hx
     ·exact ih x hx
    ·simp only [hn] at h hx
     cases y with
     | l τ xs =>
      simp only at h
      cases c with
      | sw r =>
       simp only [zA,zG] at h
       rw [← h.2]
       simp only [keys,zI,List.not_mem_nil,or_false] at hx ⊢
       rcases hx with hx | hx
       ·exact .inl hx
       ·exact .inr (ih x hx)
      | _ =>
       simp only [zA,zG] at h
       rw [← h.2]
       simp only [keys,zI,List.not_mem_nil,or_false,false_or] at hx ⊢
       exact .inr (ih x hx)
     | _=>simp at h
theorem Dp {f:Cv->Cv}:∀ {κ:List Nat} {vl:List (List Nat)} {k:Nat} {vo:List (List Ct)} {vs:List (Nat×List Cv)} {rs:List (Nat×Row)},m.fR f vl κ vo=some (vs,rs)->∀ x∈keys (nV m k vl κ),x∈keys rs
 | [],vl,k,vo,vs,rs,h,x,hx=>by simp [nV,keys] at hx
 | v::κ,vl,k,vo,vs,rs,h,x,hx=>by
  cases vo with
  | nil=>simp [Lk.fR] at h
  | cons l vo =>
   simp only [Lk.fR] at h
   cases hv:m.v v with
   | none=>simp [hv] at h
   | some cs =>
    cases h1:dW f v 0 (nJ vl) cs l with
    | none=>simp [hv,h1] at h
    | some p =>
     cases h2:m.fR f (tl vl) κ vo with
     | none=>simp [hv,h1,h2] at h
     | some q =>
      obtain ⟨a1,r1⟩:=p
      obtain ⟨b1,q1⟩:=q
      simp only [hv,h1,h2,zA,zG] at h
      rw [← h.2]
      simp only [nV,hv,bA,zH] at hx ⊢
      rcases hx with hx | hx
      ·exact .inl (Ka h1 x hx)
      ·exact .inr (Dp h2 x hx)
theorem BP:∀ {l:List Nat} {ys:List Ct} {q:List (Nat×Row)},m.ni l ys=some q->keys q=l
 | [],ys,q,h=>by
  cases ys with
  | nil=>simp only [Lk.ni,zA] at h; subst h; rfl
  | cons=>simp [Lk.ni] at h
 | r::l,ys,q,h=>by
  cases ys with
  | nil=>simp [Lk.ni] at h
  | cons y ys =>
   cases y with
   | l τ xs =>
    simp only [Lk.ni] at h
    cases hr:m.r r with
    | none=>simp [hr] at h
    | some row =>
     cases h2:m.ni l ys with
     | none=>simp [hr,h2] at h
     | some q2 =>
      simp only [hr,h2] at h
      revert h; split
      ·intro h; simp only [zA] at h; subst h; simp [keys,BP h2]
      ·intro h; cases h
   | _=>simp [Lk.ni] at h
def IF (npv:Option (Nat×Nat)) (n:Nat) (vb:Nat->Nat) (k:Nat):Nat:=match npv with | some (_,g)=>if k=n then g else vb k | none=>vb k
def npV (npv:Option (Nat×Nat)) (n k:Nat):Option Ow:=match npv with | some (cv,_)=>if k=cv then some (.v n) else none | none=>none
theorem Sw {c:bL} {args:List Value} (h:c.HH X S γ w args) {cr:CR} {v:Value} {w1:World} (hp:Fh X c.g c.ar.cf c.cH (c.gh X γ w args) w cr v w1) {d:Nat} (hd:d<1500) {av:AV}
  (ha:c.m.after c.g c.ja c.ar cr c.ow d=some (av,δ)):∃ γ',Step X S γ w δ γ' w1/\bk (S.app δ).lk γ' av v:=by
 obtain ⟨O1,ka,kb,kc,DZ,HC,bS,hvo,Cj⟩:=hp
 have hf:=h.ok.fact
 have Nk:=sX c.ja c.g.am [] 0 c.ar h.ok.args
 simp only [Lk.after] at ha
 obtain ⟨δ0,hδ0⟩:∃ δ0,c.m.Wb c.ar cr.res c.ow d=δ0:=⟨_,rfl⟩
 rw [hδ0] at ha
 cases h1:c.m.fR δ0.map c.g.vl c.ar.κ cr.vo with
 | none=>simp [h1] at ha
 | some p1 =>
  obtain ⟨vs,r1⟩:=p1
  cases h2:c.m.ni c.ar.io cr.io with
  | none=>simp [h1,h2] at ha
  | some r2 =>
   cases h3:v7 δ0.map c.ja c.ar.ly c.g.rl d cr.res with
   | none=>simp [h1,h2,h3] at ha
   | some p3 =>
    obtain ⟨av',r3,vn⟩:=p3
    simp only [h1,h2,h3] at ha
    cases uX:fv (c.ar.gone++(keys r1++(keys r2++keys r3)))&&sL 100000 (cr.res.keys d) with
    | false=>simp [uX] at ha
    | true =>
     cases HO:jx c.ar.fz (keys r1++(keys r2++keys r3)) with
     | false=>simp [uX,HO] at ha
     | true =>
      simp only [uX,HO,zA,zG] at ha
      obtain ⟨rfl,hδ⟩:=ha
      simp only [zB] at uX
      obtain ⟨uX,Wi⟩:=uX
      have uX:=gE.1 uX
      have HO:=eI.1 HO
      let K:=ka++(kb++kc)
      let A:Nat->Prop:=fun g=>∃ r,r∉K/\MA r (O1 g)
      obtain ⟨V3,G3,g3,n3,k3,Qw⟩:=Q1 h bS h3
      obtain ⟨V1,G1,g1,n1,kvs,k1,o1,q1⟩:=IX (I:=c.ar.ly=true) (A:=A) h hvo (fun i=>by simp) rfl h1
      have adg:keys (Fx (c.g.am.drop 0) 0 c.ja)=c.ar.io:=Nk.io
      obtain ⟨V2,G2,g2,n2,o2,q2⟩:=Po (I:=c.ar.ly=true) (A:=A) h Cj (fun i=>by simp) (fun i=>by simp) Nk.len (by rw [adg]; exact h2)
      let N:=r1++(r2++r3)
      let V:=V1++(V2++V3)
      have hN:dY X (c.ar.ly=true) A O1 w1 N V (G1++(G2++G3)):=n1.append (n2.append n3)
      have SS:keys N=keys r1++(keys r2++keys r3):=by simp only [N,bA]
      have hkV:keys V=keys N:=hN.keys
      have Yu:(keys N).Nodup:=by rw [SS]; exact (List.nodup_append.1 uX).2.1
      have hgN:∀ k,k∈c.ar.gone->k∉keys N:=fun k hk uA=>by rw [SS] at uA; exact (List.nodup_append.1 uX).2.2 k hk k uA rfl
      have hfN:∀ k,k∈c.ar.fz->k∉keys N:=fun k hk=>by rw [SS]; exact HO k hk
      let G:=G1++(G2++G3)
      have hGk:∀ k,k∈keys G↔k∈K:=by
       intro k; simp only [G,K,bA,g1,g2,g3,zH]
       constructor
       ·rintro (h | h | h)
        ·exact .inr (.inl h)
        ·exact .inr (.inr h)
        ·exact .inl h
       ·rintro (h | h | h)
        ·exact .inr (.inr h)
        ·exact .inl h
        ·exact .inr (.inl h)
      have ab8:(keys G).Nodup:=by
       simp only [G,bA,g1,g2,g3]
       simp only [List.nodup_append,zH] at HC ⊢
       obtain ⟨na,⟨nb,nc,nbc⟩,nabc⟩:=HC
       refine ⟨nb,⟨nc,na,fun x hx y hy e=>nabc y hy x (.inr hx) e.symm⟩,fun x hx y hy e=> ?_⟩
       rcases hy with hy | hy
       ·exact nbc x hx y hy e
       ·exact nabc y hy x (.inl hx) e.symm
      have Hx:δ.map=δ0.map:=by rw [← hδ]; funext x; cases x<;>rfl
      have hvsδ:δ.vs=vs++vn:=by rw [← hδ]
      have k8:δ.kr=c.ar.gone++(c.ow++(cr.res.keys d++c.m.lu c.ar.κ)):=by rw [← hδ,← hδ0]; rfl
      have hke:δ.ke=c.ar.io:=by rw [← hδ,← hδ0]; rfl
      have hkvδ:δ.kv=cr.res.kv d:=by rw [← hδ,← hδ0]; rfl
      have D0:δ.mv=[]:=by rw [← hδ,← hδ0]; rfl
      have Fv:δ.kn=[]:=by rw [← hδ,← hδ0]; rfl
      have zY:∀ k,fk δ.rs k=match lk N k with | some row=>some (some row) | none=>if k∈c.ar.fz then (c.m.r k).map (fun row=>some { row with ow:=3 }) else if k∈c.ar.gone then some none else none:=by
       intro k
       rw [← hδ]
       show fk (BU c.ar.gone++(c.m.S8 c.ar.fz++(my r1++(my r2++my r3)))) k=_
       rw [← wx,← wx,ia,ia,xP Yu,Kr,Ll]
       cases hl:lk N k with
       | some row=>simp
       | none =>
        simp only [Option.map_none]
        by_cases hk:k∈c.ar.fz
        ·obtain ⟨row,hr,_⟩:=Nk.Wf k hk
         simp [hk,hr]
        ·simp [hk]
      obtain ⟨npv,Jo⟩:∃ npv:Option (Nat×Nat),(npv=none->vn=[]/\cr.res.kv d=[]/\∀ m' γ',Fits m' γ' r3 V3->(∀ x v,bq S.lk γ x v->bq m' γ' (δ0.map x) v)->bk m' γ' av' v) /\
        ∀ cv g,npv=some (cv,g)->∃ (cs:List Cv) (cur:Array Value) (e:TypeId),vn=[(1000+d,cs)]/\cr.res.kv d=[1000+d]/\av'= .c (.pv (1000+d) 0)/\1000<=cv/\v= .pointer (some ⟨g,0,none⟩)/\O1 g=some (.v cv) /\
         w1.heap[g]? =some (.cells cur e (0,0))/\∀ m' γ',Fits m' γ' r3 V3->(∀ x v,bq S.lk γ x v->bq m' γ' (δ0.map x) v)->ca m' γ' cs cur.toList:=by
       rcases Qw with ⟨HB,MK,Vz⟩ | ⟨l,cs,cv,g,cur,e,e1,e2,e3,e4,e5,e6,e7,e8⟩
       ·refine ⟨none,fun _=>⟨HB,?_,Vz⟩,fun _ _ h=>by cases h⟩
        cases K3:cr.res<;>first | rfl | exact absurd K3 (MK _)
       ·refine ⟨some (cv,g),fun h=>(by cases h),fun _ _ h=> ?_⟩
        simp only [zA,zG] at h
        obtain ⟨rfl,rfl⟩:=h
        exact ⟨cs,cur,e,e2,by rw [e1]; rfl,e3,e4,e5,e6,e7,e8⟩
      let a:Rb:=⟨fun r=>lk G r,none,fun k=>if k<1000 then (c.ar.κ[k]?).map Ow.v else npV npv (1000+d) k⟩
      let first:Nat->Prop:=fun g=>g<w.heap.size/\(c.O γ g=none\/c.O γ g=some .x)
      have acm:∃ O':OM,(∀ g,first g->O' g=γ.O g)/\∀ g,¬ first g->O' g=(O1 g).bind a.f:=by
       classical
       refine ⟨fun g=>if first g then γ.O g else (O1 g).bind a.f,fun g hg=>if_pos hg,fun g hg=>if_neg hg⟩
      obtain ⟨O',HG,MM⟩:=acm
      let γ':Gh:=⟨O',fun k=>match lk V k with | some p=>p.1 | none=>γ.rv k,fun k=>match lk V k with | some p=>p.2 | none=>γ.cv k,IF npv (1000+d) γ.vb⟩
      have PD:∀ k,k∉keys N->lk V k=none:=fun k hk=>cG.2 (by rw [hkV]; exact hk)
      have Pz:∀ k,k∉keys N->γ'.rv k=γ.rv k/\γ'.cv k=γ.cv k:=by
       intro k hk
       constructor
       ·show (match lk V k with | some p=>p.1 | none=>γ.rv k)=_; rw [PD k hk]
       ·show (match lk V k with | some p=>p.2 | none=>γ.cv k)=_; rw [PD k hk]
      have jY:∀ g,g<w.heap.size->(c.O γ g=none\/c.O γ g=some .fz\/c.O γ g=some .x)->O1 g=c.O γ g/\w1.heap[g]? =w.heap[g]? :=fun g hg ho=>DZ.oR g hg ho
      have VU:∀ g,g<w.heap.size->c.O γ g=some .fz->O' g=some .fz:=by
       intro g hg ho
       have Vh:¬ first g:=by rintro ⟨_,h | h⟩<;>rw [ho] at h<;>cases h
       rw [MM g Vh,(jY g hg (.inr (.inl ho))).1,ho]; rfl
      have Nf:∀ g,c.O γ g=(γ.O g).bind c.rb.f:=fun _=>rfl
      have XU:∀ k row,S.lk.r k=some row->lk c.H k=none->k∉c.ar.fz->cP X O' w1 k row (γ.rv k) (γ.cv k):=by
       intro k row hk hH hkf
       have hor:c.rb.r k=none\/c.rb.r k=some (0,1):=by
        simp only [bL.rb,hH,if_neg hkf]
        split
        ·exact .inr rfl
        ·exact .inl rfl
       have htn:∀ x,(∃ e c',x=Ow.n k e c')\/x= .r k->c.rb.f x=none\/c.rb.f x=some .x:=by
        rintro x (⟨e,c',rfl⟩ | rfl)
        ·rcases hor with h | h<;>simp only [Rb.f,h]
         ·exact .inr rfl
         ·exact .inl rfl
        ·rcases hor with h | h<;>simp only [Rb.f,h]
         ·exact .inr rfl
         ·exact .inl rfl
       refine Hh (h.rel.rs k row hk) fun g o hg hi=> ?_
       have fM:=bW hg
       rcases xJ hi with h0 | h0 | ⟨h0,_⟩ | ⟨e,c',h0,_⟩
       ·have nk:c.O γ g=none:=by rw [Nf,h0]; rfl
        exact ⟨((jY g fM (.inl nk)).2).trans hg,HG g ⟨fM,.inl nk⟩⟩
       ·have nk:c.O γ g=some .fz:=by rw [Nf,h0]; rfl
        exact ⟨((jY g fM (.inr (.inl nk))).2).trans hg,by rw [VU g fM nk,h0]⟩
       ·have nk:c.O γ g=none\/c.O γ g=some .x:=by rw [Nf,h0]; exact htn _ (.inr rfl)
        exact ⟨((jY g fM (nk.elim .inl fun h=> .inr (.inr h))).2).trans hg,HG g ⟨fM,nk⟩⟩
       ·have nk:c.O γ g=none\/c.O γ g=some .x:=by rw [Nf,h0]; exact htn _ (.inl ⟨e,c',rfl⟩)
        exact ⟨((jY g fM (nk.elim .inl fun h=> .inr (.inr h))).2).trans hg,HG g ⟨fM,nk⟩⟩
      have Ys:∀ {r ow:Nat} {o:Option Ow},(ow=3\/ow=4\/ow=5)->Q6 r ow o->o=some .fz\/(o=some (.r r)/\ej ow=true)\/∃ e c,o=some (.n r e c)/\ow=5:=by
       intro r ow o ho hi
       rcases xJ hi with h0 | h0 | h0 | h0
       ·exfalso; subst h0
        rcases hi with h | ⟨e,c',h⟩<;>rcases ho with rfl | rfl | rfl<;>cases h
       ·exact .inl h0
       ·exact .inr (.inl h0)
       ·exact .inr (.inr h0)
      have ac6:∀ k row,k∈c.ar.fz->c.m.r k=some row->cP X O' w1 k { row with ow:=3 } (γ.rv k) (γ.cv k):=by
       intro k row hk hr
       obtain ⟨row2,fL,hle⟩:=Nk.Wf k hk
       rw [hr] at fL; cases fL
       have ho:row.ow=3\/row.ow=4\/row.ow=5:=by
        rcases qU hle with h | ⟨h,_⟩ | ⟨_,h⟩ | ⟨h,_⟩ | ⟨h,_⟩<;>first | exact h | cases h
       have:=(h.rel.rs k row (h.le.r _ _ hr)).relabel (a:=c.rb) (O':=O') (w':=w1) (fun _=>hf.fz k hk) hle (fun g o hg hi=>by
        have fM:=bW hg
        have nk:c.O γ g=some .fz:=by
         rw [Nf]
         rcases Ys ho hi with h0 | ⟨h0,_⟩ | ⟨e,c',h0,_⟩<;>rw [h0]
         ·rfl
         ·show c.rb.f (.r k)=_; simp only [Rb.f,hf.fz k hk]; rfl
         ·show c.rb.f (.n k e c')=_; simp only [Rb.f,hf.fz k hk]; rfl
        exact ⟨((jY g fM (.inr (.inl nk))).2).trans hg,by rw [VU g fM nk,← Nf,nk]⟩)
       exact ⟨this.top,this.rG⟩
      have rE:=hN.row (a:=a) (O':=O') (fun p hp=>fZ ab8 hp) (fun g o r ow hg ho hi=>by
        refine MM g fun Ft=> ?_
        have h1:=(jY g Ft.1 (Ft.2.elim .inl fun h=> .inr (.inr h))).1
        rcases Ys ho hi with h0 | ⟨h0,_⟩ | ⟨e,c',h0,_⟩<;>rw [h1] at h0<;>rcases Ft.2 with h2 | h2<;>rw [h2] at h0<;>cases h0)
       (fun SU g o hg hA=>by
        obtain ⟨r,hrK,Vp⟩:=hA
        have XO:c.O γ g=none->γ.O g=none:=by
         intro nk
         cases M3:γ.O g with
         | none=>rfl
         | some x =>
          exfalso
          rw [Nf,M3] at nk
          have nk:c.rb.f x=none:=nk
          have hκ:c.ar.κ=[]:=Nk.W3 SU
          have VX:c.b=[]:=by
           have hh:=h.ok.hand
           simp only [Lk.sF,hκ,Lk.eJ] at hh
           revert hh; split
           ·intro hh; simp only [zA,zG] at hh; exact hh.2.symm
           ·intro hh; cases hh
          have K1:∀ k,c.rb.r k=none\/∃ p,c.rb.r k=some p/\(p.2=3\/p.2=4\/p.2=5):=by
           intro k
           simp only [bL.rb]
           cases hl:lk c.H k with
           | some p =>
            right; refine ⟨p,rfl,?_⟩
            have hm:=cO hl
            simp only [bL.H,zH] at hm
            rcases hm with hm | hm | hm
            ·have:∀ (am:List Nat) (P:Nat) (l:List AV) (x:Nat×(Nat×Nat)),x∈uO am P l->x.2.2=4\/x.2.2=5:=by
              intro am P l
              induction l generalizing am P with
              | nil=>intro x hx; simp [uO] at hx
              | cons v l ih =>
               intro x hx
               simp only [uO,zH] at hx
               rcases hx with hx | hx
               ·have iX:∀ (key dd:Nat) (cs:List Cv) (j:Nat) (x:Nat×(Nat×Nat)),x∈vI key dd j cs->x.2.2=dd:=by
                 intro key dd cs
                 induction cs with
                 | nil=>intro j x hx; simp [vI] at hx
                 | cons cc cs ih2 =>
                  intro j x hx
                  cases cc<;>simp only [vI,zI] at hx<;>first | exact ih2 _ _ hx | (rcases hx with rfl | hx; rfl; exact ih2 _ _ hx)
                revert hx; split
                ·rename_i Zq
                 intro hx
                 have:=iX _ _ _ _ _ hx
                 revert Zq; unfold H0; split
                 ·rename_i h4; exact fun _=> .inl (this.trans h4)
                 ·rename_i h5; exact fun _=> .inr (this.trans h5)
                 ·simp
                ·intro hx; simp at hx
               ·exact ih _ _ x hx
             rcases this _ _ _ _ hm with h | h
             ·exact .inr (.inl h)
             ·exact .inr (.inr h)
            ·rw [hκ] at hm; simp [nV] at hm
            ·have:∀ (am:List Nat) (P:Nat) (l:List AV) (x:Nat×(Nat×Nat)),x∈Fx am P l->x.2.2=5:=by
              intro am P l
              induction l generalizing am P with
              | nil=>intro x hx; simp [Fx] at hx
              | cons v l ih =>
               intro x hx
               simp only [Fx,zH] at hx
               rcases hx with hx | hx
               ·have iX:∀ (key dd:Nat) (cs:List Cv) (j:Nat) (x:Nat×(Nat×Nat)),x∈vI key dd j cs->x.2.2=dd:=by
                 intro key dd cs
                 induction cs with
                 | nil=>intro j x hx; simp [vI] at hx
                 | cons cc cs ih2 =>
                  intro j x hx
                  cases cc<;>simp only [vI,zI] at hx<;>first | exact ih2 _ _ hx | (rcases hx with rfl | hx; rfl; exact ih2 _ _ hx)
                revert hx; split
                ·intro hx; exact iX _ _ _ _ _ hx
                ·intro hx; simp at hx
               ·exact ih _ _ x hx
             exact .inr (.inr (this _ _ _ _ hm))
           | none =>
            simp only
            split
            ·exact .inr ⟨_,rfl,.inl rfl⟩
            ·left
             rw [if_neg]
             rintro ⟨hb,row,hr,ho⟩
             rcases hb with hb | hb
             ·rw [Nk.W8 SU k hb row hr] at ho; cases ho
             ·rw [VX] at hb; cases hb
          cases x with
          | fz=>cases nk
          | x=>cases nk
          | v k =>
           simp only [Rb.f,bL.rb] at nk
           split at nk<;>cases nk
          | r k =>
           rcases K1 k with h0 | ⟨p,h0,h5⟩<;>simp only [Rb.f,h0] at nk
           ·cases nk
           ·obtain ⟨p1,p2⟩:=p
            rcases h5 with h | h | h<;>simp only at h<;>subst h<;>cases nk
          | n k e c' =>
           rcases K1 k with h0 | ⟨p,h0,h5⟩<;>simp only [Rb.f,h0] at nk
           ·cases nk
           ·obtain ⟨p1,p2⟩:=p
            rcases h5 with h | h | h<;>simp only at h<;>subst h<;>cases nk
        by_cases Ft:first g
        ·have h1:=(jY g Ft.1 (Ft.2.elim .inl fun h=> .inr (.inr h))).1
         rw [HG g Ft]
         rcases Ft.2 with h2 | h2
         ·exact .inl (XO h2)
         ·exfalso; rw [h1,h2] at Vp
          rcases Vp with h | h | h | ⟨_,_,h⟩<;>cases h
        ·rw [MM g Ft]
         have Y7:lk G r=none:=cG.2 fun hk=>hrK ((hGk r).1 hk)
         rcases Vp with h | h | h | ⟨e,c',h⟩<;>rw [h]
         ·exact .inl rfl
         ·exact .inr rfl
         ·left; show a.f (.r r)=none; simp only [Rb.f,a,Y7]
         ·left; show a.f (.n r e c')=none; simp only [Rb.f,a,Y7])
      have S0:keys r2=c.ar.io:=BP h2
      have acA:∀ x∈c.ow,x∈keys r1:=fun x hx=>Dp (k:=0) h1 x (by rw [h.ok.own.1]; exact hx)
      have Qj:∀ r,cg r δ.kr=false->r∉c.ar.gone/\r∉c.ow/\r∉cr.res.keys d/\r∉c.m.lu c.ar.κ:=by
       intro r hr
       have hr:r∉δ.kr:=fun hm=>by rw [fg.2 hm] at hr; cases hr
       rw [k8] at hr
       simp only [zH,not_or] at hr
       exact hr
      have hNk:∀ r,r∈keys N->cg r δ.kr=false->r∈c.ar.io:=by
       intro r hr hk
       obtain ⟨_,k2,k3',k4⟩:=Qj r hk
       rw [SS] at hr
       simp only [zH] at hr
       rcases hr with hr | hr | hr
       ·rcases k1 r hr with ⟨h,_⟩ | h
        ·exact absurd h k2
        ·exact absurd h k4
       ·rw [← S0]; exact hr
       ·exact absurd (k3 r hr) k3'
      have Zi:∀ r,r∈keys r2->γ'.rv r=γ.rv r:=by
       intro r hr
       obtain ⟨p,hp⟩:=pZ (l:=V) (k:=r) (by rw [hkV,SS]; simp [hr])
       show (match lk V r with | some p=>p.1 | none=>γ.rv r)=_
       rw [hp]
       have hm:=cO hp
       have Yq:=(List.nodup_append.1 uX).2.1
       simp only [V,zH] at hm
       rcases hm with hm | hm | hm
       ·have:=mem_keys hm
        rw [n1.keys] at this
        exact absurd rfl ((List.nodup_append.1 Yq).2.2 r this r (by simp [hr]))
       ·exact q2 r p.1 p.2 hm
       ·have:=mem_keys hm
        rw [n3.keys] at this
        exact absurd rfl ((List.nodup_append.1 (List.nodup_append.1 Yq).2.1).2.2 r hr r this)
      have ade:∀ r,r∉keys N->lk N r=none:=fun r hr=>cG.2 hr
      have PT:∀ r row,S.lk.r r=some row->cg r δ.kr=false->r∉c.ar.io->∃ row',(S.app δ).lk.r r=some row'/\row'.τ=row.τ/\row'.xs.length=row.xs.length/\∀ e,row'.cs e=row.cs e:=by
       intro r row hr hk hi
       have hrN:r∉keys N:=fun hm=>hi (hNk r hm hk)
       rw [kZ,zY,ade r hrN]
       by_cases hz:r∈c.ar.fz
       ·obtain ⟨row2,fL,_⟩:=Nk.Wf r hz
        have:=h.le.r r row2 fL
        rw [hr] at this; cases this
        simp only [hz,if_true,fL,Option.map_some]
        exact ⟨_,rfl,rfl,rfl,fun _=>rfl⟩
       ·simp only [hz,(Qj r hk).1,if_false]
        exact ⟨row,hr,rfl,rfl,fun _=>rfl⟩
      have FC:∀ k,(npv=none\/k≠1000+d)->γ'.vb k=γ.vb k:=by
       intro k hk
       show IF npv (1000+d) γ.vb k=_
       rcases hk with hk | hk
       ·rw [hk]; rfl
       ·cases HK:npv with
        | none=>rfl
        | some p=>simp only [IF,if_neg hk]
      have qg:∀ x v,bq S.lk γ x v->bq (S.app δ).lk γ' (δ.map x) v:=by
       refine mq h.rel D0 (fun r row hr hk=> ?_) (fun r row row' hr hk Qt cz=> ?_) (fun r hk Qt _=>⟨fun row row' hr cz=> ?_⟩) (fun k cs hk XV=>⟨?_,?_⟩)
       ·by_cases hi:r∈c.ar.io
        ·obtain ⟨row',cz⟩:=pZ (l:=N) (k:=r) (by rw [SS,S0]; simp [hi])
         exact ⟨⟨row',by rw [kZ,zY,cz]⟩,Zi r (by rw [S0]; exact hi)⟩
        ·obtain ⟨row',h1,_⟩:=PT r row hr hk hi
         exact ⟨⟨row',h1⟩,(Pz r (fun hm=>hi (hNk r hm hk))).1⟩
       ·have hi:r∉c.ar.io:=fun hm=>by rw [← hke] at hm; rw [fg.2 hm] at Qt; cases Qt
        obtain ⟨row2,h1,h2,h3,_⟩:=PT r row hr hk hi
        rw [cz] at h1; cases h1
        exact ⟨h2,by omega⟩
       ·have hi:r∉c.ar.io:=fun hm=>by rw [← hke] at hm; rw [fg.2 hm] at Qt; cases Qt
        obtain ⟨row2,h1,h2,h3,h4⟩:=PT r row hr hk hi
        rw [cz] at h1; cases h1
        intro e c' τ ys _ hc
        exact ⟨⟨ys,by rw [h4]; exact hc,Nat.le_refl _⟩,by rw [(Pz r (fun hm=>hi (hNk r hm hk))).2]⟩
       ·rw [oy]
        cases fk δ.vs k with
        | some cs'=>exact ⟨cs',rfl⟩
        | none=>simp only [hk,Option.map_some]; exact ⟨_,rfl⟩
       ·refine FC k ?_
        cases HK:npv with
        | none=>exact .inl rfl
        | some p =>
         right
         obtain ⟨cv,g⟩:=p
         obtain ⟨cs',cur,e,_,e2,_⟩:=Jo.2 cv g HK
         rw [hkvδ,e2] at XV
         exact J0.1 XV
      have X0:∀ k row,(S.app δ).lk.r k=some row->cP X O' w1 k row (γ'.rv k) (γ'.cv k):=by
       intro k row hk
       rw [kZ,zY] at hk
       cases hl:lk N k with
       | some row2 =>
        simp only [hl] at hk; cases hk
        obtain ⟨v',cs',h1,h2⟩:=rE k row hl
        have e1:γ'.rv k=v':=by show (match lk V k with | some p=>p.1 | none=>γ.rv k)=_; rw [h1]
        have e2:γ'.cv k=cs':=by show (match lk V k with | some p=>p.2 | none=>γ.cv k)=_; rw [h1]
        rw [e1,e2]; exact h2
       | none =>
        simp only [hl] at hk
        have Vk:k∉keys N:=cG.1 hl
        obtain ⟨e1,e2⟩:=Pz k Vk
        rw [e1,e2]
        by_cases hz:k∈c.ar.fz
        ·obtain ⟨row2,fL,_⟩:=Nk.Wf k hz
         simp only [hz,if_true,fL,Option.map_some,zA] at hk
         subst hk
         exact ac6 k row2 hz fL
        ·by_cases hg:k∈c.ar.gone
         ·simp only [hz,hg,if_true,if_false] at hk; cases hk
         ·simp only [hz,hg,if_false] at hk
          refine XU k row hk ?_ hz
          rw [cG,hf.kH]
          simp only [zH,not_or]
          refine ⟨hg,fun hm=>Vk ?_,fun hm=>Vk ?_⟩
          ·rw [SS]; simp [acA k hm]
          ·rw [SS,S0]; simp [hm]
      have Qu:Fits (S.app δ).lk γ' N V:=by
       refine ⟨fun k row hm=> ?_,fun k v' cs' hm=> ?_⟩
       ·obtain ⟨row',cz⟩:=nW hm
        exact ⟨row',by rw [kZ,zY,cz]⟩
       ·show (match lk V k with | some p=>p.1 | none=>γ.rv k)=_
        rw [fZ (by rw [hkV]; exact Yu) hm]
      have keep0:∀ x v,bq S.lk γ x v->bq (S.app δ).lk γ' (δ0.map x) v:=by rw [← Hx]; exact qg
      have hκn:c.ar.κ.Nodup:=Nk.nd (by simp)
      have hlkZ_mem:∀ (l:List (Nat×List Cv)) (k:Nat),(∀ cs,fk l k=some cs->(k,cs)∈l)/\(fk l k=none->k∉keys l):=by
       intro l k
       induction l with
       | nil=>exact ⟨fun cs h=>by simp [fk] at h,fun _=>by simp [keys]⟩
       | cons p l ih =>
        obtain ⟨j,u⟩:=p
        simp only [fk,keys,zI]
        cases hl:fk l k with
        | some cs' =>
         exact ⟨fun cs h=>by simp only [zA] at h; subst h; exact .inr (ih.1 _ hl),fun h=>by cases h⟩
        | none =>
         refine ⟨fun cs h=> ?_,fun h=> ?_⟩
         ·by_cases hj:j=k
          ·simp only [hj,if_true,zA] at h; subst h; subst hj; simp
          ·simp only [hj,if_false] at h; cases h
         ·by_cases hj:j=k
          ·simp [hj] at h
          ·simp [Ne.symm hj,ih.2 hl]
      refine ⟨γ',⟨⟨fun k cs hk=> ?_,X0⟩,qg,⟨DZ.os,DZ.tape,DZ.output,DZ.size,fun g hg ho=> ?_,fun g hg=> ?_⟩,fun k row hk _=> ?_,fun k row hk HP=> ?_,fun k HP Js=> ?_,fun k hk=> ?_,fun k cs hk hz=> ?_⟩,?_⟩
      ·
       rw [oy,hvsδ] at hk
       have r8:fk (vs++vn) k=none->(S.lk.v k).map (List.map δ.map)=some cs->O' (γ'.vb k)=some (.v k)/\∃ cur e,w1.heap[γ'.vb k]? =some (.cells cur e (0,0))/\ca (S.app δ).lk γ' cs cur.toList:=by
        intro hz hk
        cases hc:S.lk.v k with
        | none=>simp [hc] at hk
        | some cs0 =>
         simp only [hc,Option.map_some,zA] at hk; subst hk
         obtain ⟨hO,cur,e,mS,Cc⟩:=h.rel.vs k cs0 hc
         rw [ia] at hz
         have VY:fk vn k=none:=by revert hz; cases fk vn k<;>simp
         have Yp:fk vs k=none:=by rw [VY] at hz; exact hz
         have hkκ:k∉c.ar.κ:=by rw [← kvs]; exact (hlkZ_mem vs k).2 Yp
         have adf:γ'.vb k=γ.vb k:=by
          refine FC k ?_
          cases HK:npv with
          | none=>exact .inl rfl
          | some p =>
           right
           obtain ⟨cv,g⟩:=p
           obtain ⟨cs',cur',e',e1,_⟩:=Jo.2 cv g HK
           rintro rfl
           rw [e1] at VY; simp [fk] at VY
         rw [adf]
         have fM:=bW mS
         have hx:c.O γ (γ.vb k)=some .x:=by
          rw [Nf,hO]
          show c.rb.f (.v k)=_
          have:mZ k 0 c.ar.κ=none:=by
           cases hi:mZ k 0 c.ar.κ with
           | none=>rfl
           | some i=>exact absurd (List.mem_of_getElem? (sA hi).2) hkκ
          simp only [Rb.f,bL.rb,this]
         exact ⟨by rw [HG _ ⟨fM,.inr hx⟩,hO],cur,e,((jY _ fM (.inr (.inr hx))).2).trans mS,Cc.map qg⟩
       cases hz:fk (vs++vn) k with
       | none=>rw [hz] at hk; exact r8 hz hk
       | some cs1 =>
        rw [hz] at hk; simp only [zA] at hk; subst hk
        have given:fk vs k=some cs1->(npv=none\/k≠1000+d)->O' (γ'.vb k)=some (.v k)/\∃ cur e,w1.heap[γ'.vb k]? =some (.cells cur e (0,0))/\ca (S.app δ).lk γ' cs1 cur.toList:=by
         intro Yp P7
         obtain ⟨i,cur,e,hi,hO,mS,Cc⟩:=q1 (S.app δ).lk γ' Qu.left keep0 k cs1 ((hlkZ_mem vs k).1 _ Yp)
         rw [FC k P7]
         have Vh:¬ first (γ.vb k):=by
          intro Ft
          have h1:=(jY _ Ft.1 (Ft.2.elim .inl fun h=> .inr (.inr h))).1
          rw [hO] at h1
          rcases Ft.2 with h2 | h2<;>rw [h2] at h1<;>cases h1
         have zh:i<1000:=by have:=(zU.1 hi).1; have:=h.ok.aaH; omega
         refine ⟨?_,cur,e,mS,Cc⟩
         rw [MM _ Vh,hO]
         show a.f (.v i)=_
         simp only [Rb.f,a,if_pos zh,hi,Option.map_some]
        cases HK:npv with
        | none =>
         rw [(Jo.1 HK).1,List.append_nil] at hz
         exact given hz (.inl HK)
        | some p =>
         obtain ⟨cv,g⟩:=p
         obtain ⟨cs',cur,e,e1,e2,e3,e4,e5,e6,e7,e8⟩:=Jo.2 cv g HK
         by_cases vQ:k=1000+d
         ·subst vQ
          rw [e1,ia] at hz
          simp only [fk,if_true,zA] at hz; subst hz
          have abw:γ'.vb (1000+d)=g:=by
           show IF npv (1000+d) γ.vb (1000+d)=_
           rw [HK]; simp [IF]
          rw [abw]
          have Vh:¬ first g:=by
           intro Ft
           have h1:=(jY _ Ft.1 (Ft.2.elim .inl fun h=> .inr (.inr h))).1
           rw [e6] at h1
           rcases Ft.2 with h2 | h2<;>rw [h2] at h1<;>cases h1
          refine ⟨?_,cur,e,e7,e8 _ _ Qu.right.right keep0⟩
          show O' g=_
          rw [MM _ Vh,e6]
          show a.f (.v cv)=_
          simp only [Rb.f,a,if_neg (show ¬ cv<1000 by omega),HK,npV,if_true]
         ·rw [e1,ia] at hz
          simp only [fk,if_neg (Ne.symm vQ)] at hz
          exact given hz (.inr vQ)
      ·
       rcases ho with ho | ho | ho
       ·have nk:c.O γ g=none:=by rw [Nf,ho]; rfl
        exact ⟨HG g ⟨hg,.inl nk⟩,(jY g hg (.inl nk)).2⟩
       ·have nk:c.O γ g=some .fz:=by rw [Nf,ho]; rfl
        exact ⟨by rw [ho]; exact VU g hg nk,(jY g hg (.inr (.inl nk))).2⟩
       ·have nk:c.O γ g=some .x:=by rw [Nf,ho]; rfl
        exact ⟨HG g ⟨hg,.inr nk⟩,(jY g hg (.inr (.inr nk))).2⟩
      ·show O' g=none
       have Vh:¬ first g:=fun Ft=>by have:=DZ.size; have:=Ft.1; omega
       rw [MM g Vh,DZ.top g hg]; rfl
      ·refine Pz k fun hm=> ?_
       obtain ⟨row',cz⟩:=pZ hm
       rw [zY,cz] at hk; cases hk
      ·rw [zY] at hk
       cases hl:lk N k with
       | some row2 =>
        simp only [hl,zA] at hk; subst hk
        have hm:=cO hl
        simp only [N,zH] at hm
        rcases hm with hm | hm | hm
        ·have:=o1 _ hm; rw [HP] at this; simp [rT] at this
        ·have:=o2 _ hm; rw [HP] at this; cases this
        ·exact nI.1 Wi k (k3 k (mem_keys hm))
       | none =>
        simp only [hl] at hk
        by_cases hz:k∈c.ar.fz
        ·obtain ⟨row2,fL,_⟩:=Nk.Wf k hz
         simp only [hz,if_true,fL,Option.map_some,zA] at hk
         subst hk; cases HP
        ·simp only [hz,if_false] at hk
         split at hk<;>cases hk
      ·by_cases hm:k∈keys N
       ·rw [SS] at hm
        simp only [zH] at hm
        rcases hm with hm | hm | hm
        ·rcases k1 k hm with ⟨_,hni⟩ | hh
         ·exact absurd ⟨HP,Js⟩ (F1 hni)
         ·have:=BW hh; omega
        ·exact Zi k hm
        ·have:=nI.1 Wi k (k3 k hm); omega
       ·exact (Pz k hm).1
      ·exact FC k (.inr (by omega))
      ·rw [hvsδ,ia] at hz
       have VY:fk vn k=none:=by revert hz; cases fk vn k<;>simp
       have Yp:fk vs k=none:=by rw [VY] at hz; exact hz
       have hkκ:k∉c.ar.κ:=by rw [← kvs]; exact (hlkZ_mem vs k).2 Yp
       obtain ⟨hO,cur,e,mS,_⟩:=h.rel.vs k cs hk
       have fM:=bW mS
       have hx:c.O γ (γ.vb k)=some .x:=by
        rw [Nf,hO]
        show c.rb.f (.v k)=_
        have:mZ k 0 c.ar.κ=none:=by
         cases hi:mZ k 0 c.ar.κ with
         | none=>rfl
         | some i=>exact absurd (List.mem_of_getElem? (sA hi).2) hkκ
        simp only [Rb.f,bL.rb,this]
       refine ⟨FC k ?_,by show O' _=_; rw [HG _ ⟨fM,.inr hx⟩,hO],(jY _ fM (.inr (.inr hx))).2⟩
       cases HK:npv with
       | none=>exact .inl rfl
       | some p =>
        right
        obtain ⟨cv,g⟩:=p
        obtain ⟨cs',cur',e',e1,_⟩:=Jo.2 cv g HK
        rintro rfl
        rw [e1] at VY; simp [fk] at VY
      ·cases HK:npv with
       | none=>exact (Jo.1 HK).2.2 _ _ Qu.right.right keep0
       | some p =>
        obtain ⟨cv,g⟩:=p
        obtain ⟨cs',cur,e,e1,e2,e3,e4,e5,e6,e7,e8⟩:=Jo.2 cv g HK
        rw [e3]
        refine ⟨⟨cs',by rw [oy,hvsδ,e1,ia]; simp [fk]⟩,?_⟩
        rw [e5]
        show _=Value.pointer (some ⟨IF npv (1000+d) γ.vb (1000+d),0,none⟩)
        rw [HK]; simp [IF]
end Go.Soft
namespace Go.Soft
open Go
variable {X:Ctx} {R:Type} {E:Env R} {L:Live} {lp:Loop R}
theorem gx.none {α:Type}:gx (fun _:α->Option R=>Option.none):=⟨Option.none,fun _=>rfl⟩
theorem gx.one {α:Type} (x:α):gx (fun k:α->Option R=>k x):=⟨some x,fun _=>rfl⟩
theorem gx.map {α β:Type} {T:(α->Option R)->Option R} (h:gx T) (f:α->β):gx (fun k:β->Option R=>T fun x=>k (f x)):=by
 obtain ⟨o,ho⟩:=h
 refine ⟨o.map f,fun k=> ?_⟩
 show T _=_
 rw [ho]; cases o<;>rfl
theorem gx.bind {α β:Type} {T:(α->Option R)->Option R} (h:gx T) {F:α->(β->Option R)->Option R} (hF:∀ x,gx (F x)):gx (fun k=>T fun x=>F x k):=by
 obtain ⟨o,ho⟩:=h
 cases o with
 | none=>exact ⟨Option.none,fun k=>by show T _=_; rw [ho]; rfl⟩
 | some x=>obtain ⟨o',MO⟩:=hF x; exact ⟨o',fun k=>by show T _=_; rw [ho]; exact MO k⟩
theorem gx.aK {α:Type} {T:(α->Option R)->Option R} (h:gx T) (c:Bool):gx (fun k=>Soft.aK c (T k)):=by
 cases c with
 | true=>exact h
 | false=>exact gx.none
theorem E4 {q:Bool} {x y z:Ct} (h:Nr q x y=some z):z=bif q then x else y:=by
 revert h; unfold Nr; split
 ·intro h; cases h; cases q<;>rfl
 ·intro h; cases h; cases q<;>rfl
 ·split
  ·rename_i hk
   intro h; cases h
   rw [qN hk]; cases q<;>rfl
  ·intro h; cases h
 ·intro h; cases h; cases q<;>rfl
 ·rename_i τ x σ y
  cases ha:BT σ τ [] y with
  | none=>intro h; cases h
  | some z' =>
   intro h; cases h
   obtain ⟨e,hz⟩:=z7 ha
   subst e
   cases q
   ·show Ct.l _ z'=Ct.l _ y; rw [hz]; rfl
   ·rfl
 ·intro h; cases h
theorem By {q:Bool}:∀ {x y z:List Ct},FX q x y=some z->z=bif q then x else y
 | [],[],z,h=>by cases h; cases q<;>rfl
 | [],_::_,_,h=>by cases h
 | _::_,[],_,h=>by cases h
 | a::l,b::m,z,h=>by
  simp only [FX] at h
  revert h; split
  ·rename_i u v h1 h2
   intro h; cases h
   rw [E4 h1,By h2]; cases q<;>rfl
  ·intro h; cases h
theorem Gm {q:Bool}:∀ {x y z:List (List Ct)},J8 q x y=some z->z=bif q then x else y
 | [],[],z,h=>by cases h; cases q<;>rfl
 | [],_::_,_,h=>by cases h
 | _::_,[],_,h=>by cases h
 | a::l,b::m,z,h=>by
  simp only [J8] at h
  revert h; split
  ·rename_i u v h1 h2
   intro h; cases h
   rw [By h1,Gm h2]; cases q<;>rfl
  ·intro h; cases h
theorem Gb {q:Bool} {x y z:Rc} (h:JQ q x y=some z):z=bif q then x else y:=by
 revert h; unfold JQ; split
 ·split
  ·rename_i h1; intro h; cases h; rw [E4 h1]; cases q<;>rfl
  ·intro h; cases h
 ·split
  ·rename_i h1; intro h; cases h; rw [E4 h1]; cases q<;>rfl
  ·intro h; cases h
 ·intro h; cases h; cases q<;>rfl
 ·intro h; cases h
theorem yb {q:Bool}:∀ {x y z:List Rc},AJ q x y=some z->z=bif q then x else y
 | [],[],z,h=>by cases h; cases q<;>rfl
 | [],_::_,_,h=>by cases h
 | _::_,[],_,h=>by cases h
 | a::l,b::m,z,h=>by
  simp only [AJ] at h
  revert h; split
  ·rename_i u v h1 h2
   intro h; cases h
   rw [Gb h1,yb h2]; cases q<;>rfl
  ·intro h; cases h
theorem DE {q:Bool}:∀ {x y z:List (Bool×List Rc)},Ey q x y=some z->z=bif q then x else y
 | [],[],z,h=>by cases h; cases q<;>rfl
 | [],_::_,_,h=>by cases h
 | _::_,[],_,h=>by cases h
 | (b,x)::l,(c,y)::m,z,h=>by
  simp only [Ey] at h
  revert h; split
  ·rename_i u v h0 h1 h2
   have hbc:b=c:=by revert h0; cases b<;>cases c<;>simp
   subst hbc
   intro h; cases h
   rw [yb h1,DE h2]; cases q<;>rfl
  ·intro h; cases h
theorem NV {q:Bool} {x y z:RC} (h:Pd q x y=some z):z=bif q then x else y:=by
 revert h; unfold Pd; split
 ·intro h; cases h; cases q<;>rfl
 ·split
  ·rename_i h1; intro h; cases h; rw [Gb h1]; cases q<;>rfl
  ·intro h; cases h
 ·split
  ·rename_i h1; intro h; cases h; rw [yb h1]; cases q<;>rfl
  ·intro h; cases h
 ·split
  ·rename_i h1; intro h; cases h; rw [DE h1]; cases q<;>rfl
  ·intro h; cases h
 ·intro h; cases h
theorem RU {q:Bool} {x y z:CR} (h:IY q x y=some z):z=bif q then x else y:=by
 revert h; unfold IY; split
 ·rename_i h1 h2 h3
  intro h; cases h
  rw [NV h1,Gm h2,By h3]; cases q<;>rfl
 ·intro h; cases h
theorem gx.DS {α:Type} {f:(CR->Option R)->Option R} (hf:gx f) (p:List (Nat×Bool)) (q:Bool) (d:CR) {F:CR->(α->Option R)->Option R} (hF:∀ x,gx (F x)):gx (fun k=>Soft.DS p q f d fun x=>F x k):=by
 cases p with
 | nil=>exact hf.bind hF
 | cons a p =>
  exact hf.bind (F:=fun cr k=>match IY q cr d with | some c=>F c k | Option.none=>Option.none) fun cr=>by
   cases IY q cr d with
   | none=>exact gx.none
   | some c=>exact hF c
theorem um (hE:∀ f cf cH,gx (E.fn f cf cH)) (ops:Array Oper) (s:St) (o:Oper) :
  gx (fun k:List (Nat×Bool)×Bool×AV×Dl->Option R=>A8 X E ops s o fun p q v δ=>k (p,q,v,δ)):=by
 simp only [A8]
 cases hg:ya ops s o.guard with
 | none=>exact gx.none
 | some pq =>
  obtain ⟨p,q⟩:=pq
  simp only
  split
  ·split
   ·split
    ·exact gx.none
    ·split
     ·exact gx.none
     ·split
      ·refine gx.DS (hE _ _ _) _ _ _ fun cr=> ?_
       split
       ·exact gx.none
       ·split
        ·exact gx.one _
        ·exact gx.none
      ·exact gx.none
   ·exact gx.none
  ·split
   ·exact gx.none
   ·exact gx.one _
   ·exact gx.aK (gx.one _) _
   ·split
    ·exact gx.one _
    ·exact gx.none
   ·split
    ·exact gx.aK (gx.one _) _
    ·exact gx.none
theorem mK (hE:∀ f cf cH,gx (E.fn f cf cH)) (ops:Array Oper) (draw:Bool):∀ (l:List Oper) (s:St) (fp:List Fp),gx (fun k:St×List Fp->Option R=>gr X E ops draw l s fp fun s f=>k (s,f))
 | [],s,fp=>gx.one _
 | o::l,s,fp=>by
  simp only [gr]
  cases draw with
  | false=>exact (um hE ops s o).bind (F:=fun x k=>gr X E ops false l ((s.app x.2.2.2).put o.dst (gd x.1 x.2.1 x.2.2.1)) fp fun s f=>k (s,f)) fun x=>mK hE ops false l _ _
  | true =>
   exact (um hE ops (s.cut ops o) o).bind (F:=fun x k=>gr X E ops true l ((s.app x.2.2.2).put o.dst (gd x.1 x.2.1 x.2.2.1)) (fp++[jb ops s o x.2.2.1 x.2.2.2]) fun s f=>k (s,f))
    fun x=>mK hE ops true l _ _
theorem yy (hE:∀ f cf cH,gx (E.fn f cf cH)) (ops:Array Oper) (draw:Bool) (s:St):gx (fun k:St->Option R=>wO X E ops draw s k):=by
 simp only [wO]
 split
 ·exact gx.none
 ·cases draw with
  | false=>exact (mK (X:=X) hE ops false ops.toList s []).map (fun x:St×List Fp=>(⟨iV x.1.tm,x.1.vs,x.1.rs⟩:St))
  | true =>
   refine (mK (X:=X) hE ops true ops.toList s []).bind (F:=fun (x:St×List Fp) (k:St->Option R)=>match oA 0 ops.toList&&(su (lA [] ops.toList) 0 ops.toList&&gw (lA [] ops.toList) 0 [] x.2) with
    | true=>k ⟨iV x.1.tm,x.1.vs,x.1.rs⟩
    | false=>Option.none) fun x=> ?_
   split
   ·exact gx.one _
   ·exact gx.none
theorem jh (hE:∀ f cf cH,gx (E.fn f cf cH)) (hL:∀ c i l,gx (fun k:Ex×St->Option R=>lp c i l fun e s=>k (e,s))):∀ (c:Code) (s:St),gx (fun k:Ex×St->Option R=>exec X E L lp c s fun e s=>k (e,s))
 | .skip,s=>gx.one _
 | .region _ ops draw,s=>(yy hE ops draw s).map fun s=>(Ex.normal,s)
 | .seq a b,s=>by
  simp only [exec]
  refine (jh hE hL a s).bind (F:=fun x k=>match x.1 with
   | .normal=>exec X E L lp b x.2 fun e s=>k (e,s)
   | e=>k (e,x.2)) fun x=> ?_
  obtain ⟨e,s'⟩:=x
  cases e with
  | normal=>exact jh hE hL b s'
  | _=>exact gx.one _
 | .cond c a b,s=>by
  simp only [exec]
  split
  ·rename_i x _
   cases x with
   | true=>exact jh hE hL a s
   | false=>exact jh hE hL b s
  ·exact gx.none
 | .block id c,s=>by
  simp only [exec]
  refine (jh hE hL c s).bind (F:=fun x k=>match x.1 with
   | .exit i=>match Nat.beq i id with
    | true=>k (.normal,x.2)
    | false=>k (x.1,x.2)
   | e=>k (e,x.2)) fun x=> ?_
  obtain ⟨e,s'⟩:=x
  cases e with
  | exit i =>
   simp only
   split
   ·exact gx.one _
   ·exact gx.one _
  | _=>exact gx.one _
 | .loop c,s=>by
  simp only [exec]
  split
  ·exact gx.none
  ·split
   ·exact hL _ _ _
   ·exact gx.none
 | .exit id,s=>gx.one _
 | .ret,s=>gx.one _
 | .rangeFunc ..,s=>gx.none
 | .scope _,s=>gx.none
 | .label _,s=>gx.none
 | .goto _,s=>gx.none
 | .refuse _,s=>gx.none
theorem Me (hE:∀ f cf cH,gx (E.fn f cf cH)) (hL:∀ c i l,gx (fun k:Ex×St->Option R=>lp c i l fun e s=>k (e,s))) (c:Code) (i:Nat) (l:List mX) :
  gx (fun k:Ex×St->Option R=>round X E L lp c i l fun e s=>k (e,s)):=by
 simp only [round]
 split
 ·exact gx.none
 ·rename_i A _
  split
  ·exact gx.none
  ·rename_i s _
   refine (jh hE hL c s).bind (F:=fun x k=>match x.1 with
    | .normal=>exec X E L lp (.loop c) x.2 fun e s=>k (e,s)
    | e=>k (e,A.leave e x.2)) fun x=> ?_
   obtain ⟨e,s'⟩:=x
   cases e with
   | normal=>exact jh hE hL (.loop c) s'
   | _=>exact gx.one _
end Go.Soft
namespace Go.Soft
open Go
variable {X:Ctx} {m M:Lk} {γ γ':Gh} {w w':World} {ρ:Operand->Value} {S:St} {δ:Dl}
theorem Pm {ms:List Nat} (h:vi.le1 ms=true):(hd ms=0\/hd ms=1)/\vi.le1 (tl ms)=true:=by
 cases ms with
 | nil=>exact ⟨.inl rfl,rfl⟩
 | cons x l =>
  simp only [vi.le1,zB] at h
  have:=zQ h.1
  exact ⟨by simp only [hd]; omega,h.2⟩
theorem KH {vl:List (List Nat)} (h:vi vl=true):vi.le1 (nJ vl)=true/\vi (tl vl)=true:=by
 cases vl with
 | nil=>exact ⟨rfl,rfl⟩
 | cons x l=>simp only [vi,zB] at h; exact h
theorem yU:∀ {cs:List Cv} {ms:List Nat} {k b:List Nat},vi.le1 ms=true->m.kC ms cs=some (k,b)->k=[]
 | [],ms,k,b,_,h=>by simp only [Lk.kC,zA,zG] at h; exact h.1.symm
 | c::cs,ms,k,b,hl,h=>by
  simp only [Lk.kC] at h
  obtain ⟨h0,h1⟩:=Pm hl
  cases hr:m.kC (tl ms) cs with
  | none=>simp [hr] at h
  | some p =>
   obtain ⟨k0,b0⟩:=p
   have ih:=yU h1 hr
   simp only [hr] at h
   rcases h0 with h0 | h0<;>simp only [h0] at h<;>cases bo:c.row<;>simp only [bo,zA,zG] at h<;>rw [← h.1,ih]
theorem uM:∀ {κ:List Nat} {vl:List (List Nat)} {k b:List Nat},vi vl=true->m.eJ vl κ=some (k,b)->k=[]
 | [],vl,k,b,_,h=>by simp only [Lk.eJ,zA,zG] at h; exact h.1.symm
 | v::κ,vl,k,b,hl,h=>by
  obtain ⟨l1,l2⟩:=KH hl
  simp only [Lk.eJ] at h
  cases hv:m.v v with
  | none=>simp [hv] at h
  | some cs =>
   cases h1:m.kC (nJ vl) cs with
   | none=>simp [hv,h1] at h
   | some p =>
    cases h2:m.eJ (tl vl) κ with
    | none=>simp [hv,h1,h2] at h
    | some q =>
     obtain ⟨a1,b1⟩:=p
     obtain ⟨a2,b2⟩:=q
     simp only [hv,h1,h2,zA,zG] at h
     rw [← h.1,yU l1 h1,uM l2 h2]; rfl
theorem Bt (hR:Rel X S.lk γ w) {f:Cv->Cv} {v:Nat}:∀ {cs:List Cv} {ms:List Nat} {j:Nat} {l:List Ct} {cs':List Cv} {rs:List (Nat×Row)},vi.le1 ms=true->m.iw cs=some l->dW f v j ms cs l=some (cs',rs) ->
  rs=[]/\∀ (m':Lk) (γ':Gh) (u:List Value),(∀ x v,bq S.lk γ x v->bq m' γ' (f x) v)->ca S.lk γ cs u->ca m' γ' cs' u
 | [],ms,j,l,cs',rs,_,hc,h=>by
  simp only [Lk.iw,zA] at hc; subst hc
  simp only [dW,zA,zG] at h; obtain ⟨rfl,rfl⟩:=h
  exact ⟨rfl,fun m' γ' u _ hu=>by cases hu; exact .nil⟩
 | c::cs,ms,j,l,cs',rs,hl,hc,h=>by
  simp only [Lk.iw] at hc
  cases h1:m.ct c with
  | none=>simp [h1] at hc
  | some y =>
   cases h2:m.iw cs with
   | none=>simp [h1,h2] at hc
   | some ys =>
    simp only [h1,h2,zA] at hc; subst hc
    simp only [dW] at h
    cases eB:dW f v (j+1) (tl ms) cs ys with
    | none=>simp [eB] at h
    | some p =>
     obtain ⟨cs2,rs2⟩:=p
     simp only [eB] at h
     obtain ⟨l0,l1⟩:=Pm hl
     obtain ⟨ih1,ih2⟩:=Bt hR l1 h2 eB
     rcases l0 with l0 | l0
     ·simp only [l0] at h
      cases hf:kz y with
      | none=>simp [hf] at h
      | some x =>
       simp only [hf,zA,zG] at h
       obtain ⟨rfl,rfl⟩:=h
       refine ⟨ih1,fun m' γ' u hk hu=> ?_⟩
       cases hu with
       | cons hx hl =>
        refine .cons (Dn hf ?_) (ih2 m' γ' _ hk hl)
        by_cases hyu:y= .u
        ·subst hyu; exact .inl ⟨rfl,hx.one hR⟩
        ·right
         refine ⟨hyu,?_⟩
         have Qq:∀ τ xs,y≠ .l τ xs:=by rintro τ xs rfl; simp [kz] at hf
         have:=zr (M:=S.lk) (γ:=γ) h1 hyu Qq
         rw [this] at hx; exact hx
     ·simp only [l0,zA,zG] at h
      obtain ⟨rfl,rfl⟩:=h
      refine ⟨ih1,fun m' γ' u hk hu=> ?_⟩
      cases hu with
      | cons hx hl=>exact .cons (hk _ _ hx) (ih2 m' γ' _ hk hl)
theorem Dr (hm:Le m S.lk) (hR:Rel X S.lk γ w) {f:Cv->Cv}:∀ {κ:List Nat} {vl:List (List Nat)} {cH:List (List Ct)} {vs:List (Nat×List Cv)} {rs:List (Nat×Row)},vi vl=true->m.ux vl κ=some cH->m.fR f vl κ cH=some (vs,rs) ->
  rs=[]/\∀ v cs',(v,cs')∈vs->∃ cs,S.lk.v v=some cs/\∀ (m':Lk) (γ':Gh) (u:List Value),(∀ x v,bq S.lk γ x v->bq m' γ' (f x) v)->ca S.lk γ cs u->ca m' γ' cs' u
 | [],vl,cH,vs,rs,_,hi,h=>by
  simp only [Lk.ux,zA] at hi; subst hi
  simp only [Lk.fR,zA,zG] at h; obtain ⟨rfl,rfl⟩:=h
  exact ⟨rfl,fun v cs' hm=>by simp at hm⟩
 | v::κ,vl,cH,vs,rs,hl,hi,h=>by
  obtain ⟨l1,l2⟩:=KH hl
  simp only [Lk.ux] at hi
  cases hv:m.v v with
  | none=>simp [hv] at hi
  | some cs =>
   cases hb:Nat.ble cs.length 63 with
   | false=>simp [hv,hb] at hi
   | true =>
    cases hc:m.iw cs with
    | none=>simp [hv,hb,hc] at hi
    | some l =>
     cases hr:m.ux (tl vl) κ with
     | none=>simp [hv,hb,hc,hr] at hi
     | some r =>
      simp only [hv,hb,hc,hr,zA] at hi; subst hi
      simp only [Lk.fR,hv] at h
      cases h1:dW f v 0 (nJ vl) cs l with
      | none=>simp [h1] at h
      | some p =>
       cases h2:m.fR f (tl vl) κ r with
       | none=>simp [h1,h2] at h
       | some q =>
        obtain ⟨a1,r1⟩:=p
        obtain ⟨b1,q1⟩:=q
        simp only [h1,h2,zA,zG] at h
        obtain ⟨rfl,rfl⟩:=h
        obtain ⟨e1,e2⟩:=Bt hR l1 hc h1
        obtain ⟨e3,e4⟩:=Dr hm hR l2 hr h2
        refine ⟨by rw [e1,e3]; rfl,fun u cs' SZ=> ?_⟩
        rcases zI.1 SZ with SZ | SZ
        ·cases SZ; exact ⟨cs,hm.v _ _ hv,e2⟩
        ·exact e4 u cs' SZ
theorem Kd {τ:Ty} {xs:List (El τ)} (h:NR (.l τ xs)=true):xs=[]:=by cases xs<;>simp_all [NR]
theorem qI {f:Cv->Cv} {as:List AV} {ly:Bool}:∀ {ys:List Rc} {k:Nat} {ms:List Nat} {cs:List Cv} {rs:List (Nat×Row)},pN ys=true->kX f as ly k ms ys=some (cs,rs)->(∀ p∈rs,p.2.xs=[])/\∀ x∈keys rs,k<=x/\x<k+ys.length
 | [],k,ms,cs,rs,_,h=>by simp only [kX,zA,zG] at h; obtain ⟨rfl,rfl⟩:=h; simp [keys]
 | y::ys,k,ms,cs,rs,hn,h=>by
  simp only [kX] at h
  cases eB:kX f as ly (k+1) (tl ms) ys with
  | none=>simp [eB] at h
  | some p =>
   obtain ⟨cs2,rs2⟩:=p
   simp only [eB] at h
   have VC:pN ys=true:=by cases y<;>simp_all [pN]
   obtain ⟨i1,i2⟩:=qI VC eB
   have plain:rs=rs2->(∀ p∈rs,p.2.xs=[])/\∀ x∈keys rs,k<=x/\x<k+(y::ys).length:=by
    rintro rfl; exact ⟨i1,fun x hx=>by have:=i2 x hx; simp only [zR]; omega⟩
   have Oj:∀ row:Row,row.xs=[]->rs=(k,row)::rs2->(∀ p∈rs,p.2.xs=[])/\∀ x∈keys rs,k<=x/\x<k+(y::ys).length:=by
    rintro row bo rfl
    refine ⟨fun p hp=> ?_,fun x hx=> ?_⟩
    ·rcases zI.1 hp with rfl | hp
     ·exact bo
     ·exact i1 p hp
    ·simp only [keys,zI] at hx
     simp only [zR]
     rcases hx with rfl | hx
     ·omega
     ·have:=i2 x hx; omega
   cases y with
   | m y =>
    simp only [pN,zB] at hn
    cases y with
    | l τ xs =>
     simp only at h
     cases ly with
     | true=>simp only [zA,zG] at h; exact Oj _ (Kd hn.1) h.2.symm
     | false=>simp only [zA,zG] at h; exact plain h.2.symm
    | _=>simp only [kz,zA,zG] at h; exact plain h.2.symm
   | c y =>
    simp only [pN,zB] at hn
    cases y with
    | l τ xs=>simp only [zA,zG] at h; exact Oj _ (Kd hn.1) h.2.symm
    | _=>simp only [kz,zA,zG] at h; exact plain h.2.symm
   | _=>simp [pN] at hn
theorem Bf {f:Cv->Cv} {as:List AV} {ly:Bool}:∀ {ys:List (Bool×List Rc)} {k:Nat} {ms:List (List Nat)} {ts:List (Bool×List Cv)} {rs:List (Nat×Row)},EO ys=true->rK f as ly k ms ys=some (ts,rs) ->
  (∀ p∈rs,p.2.xs=[])/\∀ x∈keys rs,k<=x/\x<k+Mu ys
 | [],k,ms,ts,rs,_,h=>by simp only [rK,zA,zG] at h; obtain ⟨rfl,rfl⟩:=h; simp [keys]
 | (b,l)::ys,k,ms,ts,rs,hn,h=>by
  simp only [EO,zB] at hn
  simp only [rK] at h
  cases h1:kX f as ly k (nJ ms) l with
  | none=>simp [h1] at h
  | some p =>
   cases h2:rK f as ly (k+l.length) (tl ms) ys with
   | none=>simp [h1,h2] at h
   | some q =>
    obtain ⟨cs1,rs1⟩:=p
    obtain ⟨ts2,rs2⟩:=q
    simp only [h1,h2,zA,zG] at h
    obtain ⟨rfl,rfl⟩:=h
    obtain ⟨a1,a2⟩:=qI hn.1 h1
    obtain ⟨b1,b2⟩:=Bf hn.2 h2
    refine ⟨fun p hp=>(zH.1 hp).elim (a1 p) (b1 p),fun x hx=> ?_⟩
    rw [bA,zH] at hx
    simp only [Mu,p5]
    rcases hx with hx | hx
    ·have:=a2 x hx; omega
    ·have:=b2 x hx; omega
theorem Mf {f:Cv->Cv} {as:List AV} {ly:Bool} {rl:List (List Nat)} {d:Nat} {res:RC} {av:AV} {rs:List (Nat×Row)} {vn:List (Nat×List Cv)} (hn:OQ res=true) (h:v7 f as ly rl d res=some (av,rs,vn)) :
  vn=[]/\res.kv d=[]/\(∀ p∈rs,p.2.xs=[])/\∀ x∈keys rs,x∈res.keys d:=by
 cases res with
 | u=>simp only [v7,zA,zG] at h; obtain ⟨_,rfl,rfl⟩:=h; simp [keys,RC.kv]
 | c x =>
  simp only [v7] at h
  cases h1:kX f as ly (d*64) (nJ rl) [x] with
  | none=>simp [h1] at h
  | some p =>
   obtain ⟨cs,rs1⟩:=p
   obtain ⟨a1,a2⟩:=qI hn h1
   simp only [h1] at h
   revert h; split
   ·rename_i heq
    simp only [zA,zG] at heq
    obtain ⟨rfl,rfl⟩:=heq
    intro h; simp only [zA,zG] at h; obtain ⟨_,rfl,rfl⟩:=h
    refine ⟨rfl,rfl,a1,fun x hx=> ?_⟩
    have:=a2 x hx
    simp only [RC.keys,zS]; simp at this; omega
   ·intro h; cases h
 | a l =>
  simp only [v7] at h
  cases h1:kX f as ly (d*64) (nJ rl) l with
  | none=>simp [h1] at h
  | some p =>
   obtain ⟨cs,rs1⟩:=p
   obtain ⟨a1,a2⟩:=qI hn h1
   simp only [h1,zA,zG] at h
   obtain ⟨_,rfl,rfl⟩:=h
   exact ⟨rfl,rfl,a1,fun x hx=>by simp only [RC.keys,p5,tD]; exact a2 x hx⟩
 | t l =>
  simp only [v7] at h
  cases h1:rK f as ly (d*64) rl l with
  | none=>simp [h1] at h
  | some p =>
   obtain ⟨ts,rs1⟩:=p
   obtain ⟨a1,a2⟩:=Bf hn h1
   simp only [h1,zA,zG] at h
   obtain ⟨_,rfl,rfl⟩:=h
   exact ⟨rfl,rfl,a1,fun x hx=>by simp only [RC.keys,tD]; exact a2 x hx⟩
 | np l=>simp [OQ] at hn
theorem RB (hR:Rel X S.lk γ w) (cm:∀ g,w.heap.size<=g->γ.O g=none) (hm:Le m S.lk) {g:ub} {ja:List AV} {ar:AR} {cH:List (List Ct)} {ow b:List Nat} {d:Nat} (hd:d<1500) {av:AV}
  (K6:m.ux g.vl ar.κ=some cH) (Cd:m.sF g ar=some (ow,b)) (ha:m.after g ja ar ⟨g.dr,cH,m.Ew ar.io⟩ ow d=some (av,δ))
  (hl:vi g.vl=true) (Ww:OQ g.dr=true) (M3:ar.gone=[]) (Cj:ar.io=[]) (X6:ar.fz=[]):∃ γ',Step X S γ w δ γ' w:=by
 have tx:ow=[]:=by
  simp only [Lk.sF] at Cd
  cases ho:m.eJ g.vl ar.κ with
  | none=>simp [ho] at Cd
  | some p =>
   obtain ⟨dM,b'⟩:=p
   have:=uM hl ho
   simp only [ho] at Cd
   revert Cd; split
   ·intro h; simp only [zA,zG] at h; rw [← h.1,this]
   ·intro h; cases h
 subst tx
 simp only [Lk.after] at ha
 obtain ⟨δ0,hδ0⟩:∃ δ0,m.Wb ar g.dr [] d=δ0:=⟨_,rfl⟩
 rw [hδ0] at ha
 cases h1:m.fR δ0.map g.vl ar.κ cH with
 | none=>simp [h1] at ha
 | some p1 =>
  obtain ⟨vs,r1⟩:=p1
  cases h2:m.ni ar.io (m.Ew ar.io) with
  | none=>simp [h1,h2] at ha
  | some r2 =>
   cases h3:v7 δ0.map ja ar.ly g.rl d g.dr with
   | none=>simp [h1,h2,h3] at ha
   | some p3 =>
    obtain ⟨av',r3,vn⟩:=p3
    simp only [h1,h2,h3] at ha
    cases uX:fv (ar.gone++(keys r1++(keys r2++keys r3)))&&sL 100000 (g.dr.keys d) with
    | false=>simp [uX] at ha
    | true =>
     cases HO:jx ar.fz (keys r1++(keys r2++keys r3)) with
     | false=>simp [uX,HO] at ha
     | true =>
      simp only [uX,HO,zA,zG] at ha
      obtain ⟨rfl,hδ⟩:=ha
      obtain ⟨e1,q1⟩:=Dr hm hR hl K6 h1
      obtain ⟨e3,e4,e5,e6⟩:=Mf Ww h3
      have e2:r2=[]:=by
       rw [Cj] at h2
       simp only [Lk.Ew,Lk.ni,zA] at h2; exact h2.symm
      subst e1; subst e2; subst e3
      simp only [zB] at uX
      have Wi:=nI.1 uX.2
      have uX:=gE.1 uX.1
      simp only [M3,keys,List.nil_append] at uX
      have Hx:δ.map=δ0.map:=by rw [← hδ]; funext x; cases x<;>rfl
      have hvsδ:δ.vs=vs:=by rw [← hδ]; simp
      have k8:δ.kr=g.dr.keys d++m.lu ar.κ:=by rw [← hδ,← hδ0]; simp [Lk.Wb,M3]
      have hkvδ:δ.kv=[]:=by rw [← hδ,← hδ0]; exact e4
      have D0:δ.mv=[]:=by rw [← hδ,← hδ0]; rfl
      have zY:∀ k,fk δ.rs k=(lk r3 k).map some:=by
       intro k
       rw [← hδ]
       show fk (BU ar.gone++(m.S8 ar.fz++(my []++(my []++my r3)))) k=_
       rw [M3,X6]
       simp only [BU,Lk.S8,my,List.nil_append]
       exact xP uX k
      let γ':Gh:=⟨γ.O,fun k=>match lk r3 k with | some _=> .slice none 0 0 | none=>γ.rv k,fun k=>match lk r3 k with | some _=>[] | none=>γ.cv k,γ.vb⟩
      have vP:∀ k,lk r3 k=none->γ'.rv k=γ.rv k/\γ'.cv k=γ.cv k:=by
       intro k hk
       constructor
       ·show (match lk r3 k with | some _=>Value.slice none 0 0 | none=>γ.rv k)=_; rw [hk]
       ·show (match lk r3 k with | some _=>[] | none=>γ.cv k)=_; rw [hk]
      have P7:∀ r,cg r δ.kr=false->lk r3 r=none:=by
       intro r hr
       rw [cG]
       intro K4
       have:r∈δ.kr:=by rw [k8]; exact List.mem_append_left _ (e6 r K4)
       rw [fg.2 this] at hr; cases hr
      have Ht:∀ r,lk r3 r=none->(S.app δ).lk.r r=S.lk.r r:=by
       intro r hr; rw [kZ,zY,hr]; rfl
      have qg:∀ x v,bq S.lk γ x v->bq (S.app δ).lk γ' (δ.map x) v:=by
       refine mq hR D0 (fun r row hr hk=> ?_) (fun r row row' hr hk _ cz=> ?_) (fun r hk _ _=>⟨fun row row' hr cz=> ?_⟩) (fun k cs hk _=>⟨?_,rfl⟩)
       ·exact ⟨⟨row,by rw [Ht r (P7 r hk)]; exact hr⟩,(vP r (P7 r hk)).1⟩
       ·rw [Ht r (P7 r hk),hr] at cz; cases cz; exact ⟨rfl,Nat.le_refl _⟩
       ·rw [Ht r (P7 r hk),hr] at cz; cases cz
        intro e c' τ ys _ hc
        exact ⟨⟨ys,hc,Nat.le_refl _⟩,by rw [(vP r (P7 r hk)).2]⟩
       ·rw [oy]
        cases fk δ.vs k with
        | some cs'=>exact ⟨cs',rfl⟩
        | none=>simp only [hk,Option.map_some]; exact ⟨_,rfl⟩
      have keep0:∀ x v,bq S.lk γ x v->bq (S.app δ).lk γ' (δ0.map x) v:=by rw [← Hx]; exact qg
      refine ⟨γ',⟨⟨fun k cs hk=> ?_,fun k row hk=> ?_⟩,qg,⟨rfl,rfl,rfl,Nat.le_refl _,fun g hg _=>⟨rfl,rfl⟩,cm⟩,fun k row hk _=> ?_,fun k row hk HP=> ?_,fun k HP Js=> ?_,fun _ _=>rfl,fun k cs hk _=>⟨rfl,(hR.vs k cs hk).1,rfl⟩⟩⟩
      ·rw [oy,hvsδ] at hk
       cases hz:fk vs k with
       | none =>
        rw [hz] at hk
        cases hc:S.lk.v k with
        | none=>simp [hc] at hk
        | some cs0 =>
         simp only [hc,Option.map_some,zA] at hk; subst hk
         obtain ⟨hO,cur,e,mS,Cc⟩:=hR.vs k cs0 hc
         exact ⟨hO,cur,e,mS,Cc.map qg⟩
       | some cs1 =>
        rw [hz] at hk; simp only [zA] at hk; subst hk
        have eF:∀ (l:List (Nat×List Cv)),fk l k=some cs1->(k,cs1)∈l:=by
         intro l
         induction l with
         | nil=>intro h; simp [fk] at h
         | cons p l ih =>
          obtain ⟨j,u⟩:=p
          intro h
          simp only [fk] at h
          cases hl:fk l k with
          | some u2=>rw [hl] at h; simp only [zA] at h; subst h; exact zJ _ (ih hl)
          | none =>
           rw [hl] at h
           by_cases hj:j=k
           ·simp only [hj,if_true,zA] at h; subst h; subst hj; simp
           ·simp only [hj,if_false] at h; cases h
        obtain ⟨cs,iX,hq⟩:=q1 k cs1 (eF vs hz)
        obtain ⟨hO,cur,e,mS,Cc⟩:=hR.vs k cs iX
        exact ⟨hO,cur,e,mS,hq _ _ _ keep0 Cc⟩
      ·rw [kZ,zY] at hk
       cases hl:lk r3 k with
       | none =>
        rw [hl] at hk
        obtain ⟨a1,a2⟩:=vP k hl
        rw [a1,a2]; exact hR.rs k row hk
       | some row2 =>
        rw [hl] at hk; simp only [Option.map_some] at hk; cases hk
        have a1:γ'.rv k= .slice none 0 0:=by show (match lk r3 k with | some _=>Value.slice none 0 0 | none=>γ.rv k)=_; rw [hl]
        have a2:γ'.cv k=[]:=by show (match lk r3 k with | some _=>[] | none=>γ.cv k)=_; rw [hl]
        have Tv:=e5 _ (cO hl)
        obtain ⟨τ,xs,ow⟩:=row
        simp only at Tv; subst Tv
        rw [a1,a2]; exact cP.nil _ _ _ _ _ _
      ·rw [zY] at hk
       cases hl:lk r3 k with
       | none=>exact vP k hl
       | some row2=>rw [hl] at hk; cases hk
      ·rw [zY] at hk
       cases hl:lk r3 k with
       | none=>rw [hl] at hk; cases hk
       | some row2=>exact Wi k (e6 k (mem_keys (cO hl)))
      ·refine (vP k ?_).1
       rw [cG]; intro K4
       have:=Wi k (e6 k K4); omega
def tv (a:Act) (p:List (Nat×Bool)):Prop:=∀ x∈p,a.tmps.getD x.1 undef= .bool x.2
structure yg (D:List Nat) (S:St) (a:Act):Prop where
 g:∀ t p q v,lk S.tm t=some (.g p q v)->(∀ x∈p,x.1∈D)/\(q=true↔tv a p)
theorem FU {a:Act}:∀ {p P:List (Nat×Bool)},BY p P=true->tv a P->tv a p
 | [],P,_,_=>fun x hx=>by simp at hx
 | (t,x)::p,[],h,_=>by simp [BY] at h
 | (t,x)::p,(u,y)::P,h,hP=>by
  simp only [BY,zB] at h
  have ht:=aG h.1
  subst ht
  have MZ:x=y:=by cases x<;>cases y<;>simp_all
  subst MZ
  intro z hz
  rcases zI.1 hz with rfl | hz
  ·exact hP _ zO
  ·exact FU h.2.2 (fun u hu=>hP u (zJ _ hu)) z hz
theorem Kx (hR:Rel X S.lk γ w) (cm:∀ g,w.heap.size<=g->γ.O g=none):Step X S γ w Dl.z γ w:=by
 have e:S.app Dl.z=S:=rfl
 refine ⟨by rw [e]; exact hR,fun x v hx=>by rw [e,tM rfl]; exact hx,⟨rfl,rfl,rfl,Nat.le_refl _,fun _ _ _=>⟨rfl,rfl⟩,cm⟩,fun _ _ _ _=>⟨rfl,rfl⟩,fun k row h=>(by cases h),fun _ _ _=>rfl,fun _ _=>rfl,fun k cs hk _=>⟨rfl,(hR.vs k cs hk).1,rfl⟩⟩
theorem yd {v:AV} {u:Value} (h:bk M γ v u):bk M γ (uP v) u:=by
 cases v<;>first | exact h | exact trivial
theorem Ed {p:List (Nat×Bool)} {q:Bool} {v:AV} {u:Value} (hq:q=true) (h:bk M γ v u):bk M γ (gd p q v) u:=by
 cases p with
 | nil=>exact yd h
 | cons x p=>exact ⟨fun _=>h,fun e=>by rw [hq] at e; cases e⟩
theorem Kv {p:List (Nat×Bool)} {v:AV} (hp:p≠[]):bk M γ (gd p false v) undef:=by
 cases p with
 | nil=>exact absurd rfl hp
 | cons x p=>exact ⟨fun e=>(by cases e),fun _=>rfl⟩
theorem iU {R α:Type} (r0:R) {x y:α} (h:∀ K:α->Option R,K x=K y):x=y:=by
 classical
 have:=h fun z=>if z=x then some r0 else none
 simp only [if_true] at this
 by_cases hy:y=x
 ·exact hy.symm
 ·simp [hy] at this
theorem bM {R α:Type} (r0:R) {y:α} (h:∀ K:α->Option R,none=K y):False:=by
 have:=h fun _=>some r0
 simp at this
section
variable {R:Type} {E:Env R} {ops:Array Oper} {s':St} {a:Act} {D:List Nat}
theorem get_some {t:Nat} {v:AV} (h:s'.get t=v) (hv:v≠ .c .un):lk s'.tm t=some v:=by
 simp only [St.get] at h
 cases hl:lk s'.tm t with
 | some u=>simp only [hl] at h; rw [h]
 | none=>simp only [hl] at h; exact absurd h.symm hv
theorem Nz (hT:EC X S γ a) (hG:yg D S a) (ht:∀ t av,lk s'.tm t=some av->lk S.tm t=some av) {o:Oper} (HE:∀ j w,o.guard=some (j,w)->∀ oj t,ops[j]? =some oj->oj.dst=some t->t∈D)
  {p:List (Nat×Bool)} {q:Bool} (h:ya ops s' o.guard=some (p,q)) :
  (∀ x∈p,x.1∈D)/\(q=true↔tv a p)/\Region.wanted o (yielded ops a.tmps)=q/\(p=[]->q=true):=by
 simp only [Region.wanted]
 cases hg:o.guard with
 | none =>
  rw [hg] at h
  simp only [ya,zA,zG] at h
  obtain ⟨rfl,rfl⟩:=h
  exact ⟨by simp,by simp [tv],rfl,fun _=>rfl⟩
 | some jw =>
  obtain ⟨j,want⟩:=jw
  rw [hg] at h
  simp only [ya] at h
  cases hj:ops[j]? with
  | none=>simp [hj] at h
  | some oj =>
   simp only [hj] at h
   cases hd:oj.dst with
   | none=>simp [hd] at h
   | some t =>
    simp only [hd] at h
    have hD:=HE j want hg oj t hj hd
    have hy:∀ x,a.tmps.getD t undef= .bool x->yielded ops a.tmps j=some x:=by
     intro x hx
     have:a.tmps[t]? =some (.bool x):=by
      rw [Array.getD_eq_getD_getElem?] at hx
      cases hh:a.tmps[t]? with
      | none=>rw [hh] at hx; cases hx
      | some v=>rw [hh] at hx; simp only [Option.getD_some] at hx; rw [hx]
     simp only [yielded,hj,Option.bind_some,hd,this]
    have hyn:a.tmps.getD t undef=undef->yielded ops a.tmps j=none:=by
     intro hx
     simp only [yielded,hj,Option.bind_some,hd]
     rw [Array.getD_eq_getD_getElem?] at hx
     cases hh:a.tmps[t]? with
     | none=>rfl
     | some v =>
      rw [hh] at hx; simp only [Option.getD_some] at hx; subst hx; rfl
    revert h; split
    ·rename_i x hx
     intro h
     simp only [zA,zG] at h
     obtain ⟨rfl,rfl⟩:=h
     have hv:=hT.2 t _ (ht t _ (get_some hx (by simp)))
     have hv:a.tmps.getD t undef= .bool x:=hv
     refine ⟨by simpa using hD,?_,?_,by simp⟩
     ·simp only [tv,zS,forall_eq,hv,Value.bool.injEq]
      cases want<;>cases x<;>simp
     ·show (yielded ops a.tmps j==some want)=_
      rw [hy x hv]; cases want<;>cases x<;>rfl
    ·rename_i p' q' x hx
     intro h
     simp only [zA,zG] at h
     obtain ⟨rfl,rfl⟩:=h
     have hl:=ht t _ (get_some hx (by simp))
     obtain ⟨g1,g2⟩:=hG.g t _ _ _ hl
     have hv:=hT.2 t _ hl
     refine ⟨fun y hy=> ?_,?_,?_,by simp⟩
     ·rcases zH.1 hy with hy | hy
      ·exact g1 y hy
      ·simp at hy; rw [hy]; exact hD
     ·simp only [tv,zH,zS]
      cases hq:q' with
      | true =>
       have hv:a.tmps.getD t undef= .bool x:=hv.1 hq
       have QO:=g2.1 hq
       constructor
       ·intro h y hy
        rcases hy with hy | hy
        ·exact QO y hy
        ·rw [hy,hv]; cases want<;>cases x<;>simp_all
       ·intro h
        have:=h (t,want) (.inr rfl)
        rw [hv] at this
        simp only [Value.bool.injEq] at this
        subst this; cases x<;>rfl
      | false =>
       have:¬ tv a p':=fun h=>by have:=g2.2 h; rw [hq] at this; cases this
       simp only [Bool.false_and,Bool.false_eq_true,false_iff]
       exact fun h=>this fun y hy=>h y (.inl hy)
     ·cases hq:q' with
      | true =>
       have hv:a.tmps.getD t undef= .bool x:=hv.1 hq
       show (yielded ops a.tmps j==some want)=_
       rw [hy x hv]; cases want<;>cases x<;>rfl
      | false =>
       have hv:a.tmps.getD t undef=undef:=hv.2 hq
       show (yielded ops a.tmps j==some want)=_
       rw [hyn hv]; cases want<;>cases x<;>rfl
    ·intro h; cases h
theorem sr (hT:EC X S γ a) (hG:yg D S a) (ht:∀ t av,lk s'.tm t=some av->lk S.tm t=some av) {p:List (Nat×Bool)} (hp:tv a p) (ty:TypeId) (x:Operand):bk S.lk γ (X.xV s' p ty x) (a.eval x) :=
 Rz (M:=S.lk) (fun t av h=>hT.2 t av (ht t av h)) p (fun t p' q v h hi=>(hG.g t p' q v (ht t _ h)).2.2 (FU hi hp)) ty x
theorem IG {P:Program} {f:FuncId} (h:vt P f) (args:Array Value) (w:World):(callFunc f args).run P w= .ok (.enter f args) w:=by
 obtain ⟨fn,h1,h2,h3⟩:=h
 have Js:¬ fn.name = "runtime.NumGoroutine" := by simpa using h2
 have KY:¬ fn.body=none:=by cases hb:fn.body<;>simp_all
 simp [callFunc,h1,Js,KY]
theorem Lm {p:List (Nat×Bool)} {g:ub} {ar:AR} {v:AV} (hp:p≠[]) (h:AI p g ar v=true):vi g.vl=true/\OQ g.dr=true/\ar.gone=[]/\ar.io=[]/\ar.fz=[]:=by
 cases p with
 | nil=>exact absurd rfl hp
 | cons x p =>
  simp only [AI,zB] at h
  obtain ⟨a1,a2,a3⟩:=h
  refine ⟨a1,a2,?_⟩
  revert a3; split
  ·simp
  ·intro _; exact ⟨by assumption,by assumption,by assumption⟩
  ·simp
theorem Ky (r0:R) (hX:iy X) (hE:sM X E) (hR:Rel X S.lk γ w) (cm:∀ g,w.heap.size<=g->γ.O g=none) (hT:EC X S γ a) (hG:yg D S a) (hm:Le s'.lk S.lk)
  (ht:∀ t av,lk s'.tm t=some av->lk S.tm t=some av) {o:Oper} (hnt:X.nt<=1500) (aco:∀ d,o.dst=some d->d<X.nt) (HE:∀ j w,o.guard=some (j,w)->∀ oj t,ops[j]? =some oj->oj.dst=some t->t∈D)
  {p:List (Nat×Bool)} {q:Bool} {v:AV} (rY:∀ K:List (Nat×Bool)×Bool×AV×Dl->Option R,(A8 X E ops s' o fun p q v δ=>K (p,q,v,δ))=K (p,q,v,δ)) {next:Act->World->Prop} {Q:Exit->Act->World->Prop}
  (hn:∀ γ' w' u,Step X S γ w δ γ' w'->bk (S.app δ).lk γ' (gd p q v) u->next (a.put o.dst u) w') :
  ((∀ x∈p,x.1∈D)/\(q=true↔tv a p))/\(if Region.wanted o (yielded ops a.tmps) then o.wp X.P a w next Q else next (a.put o.dst undef) w):=by
 have JA:(match o.dst with | some d=>d | none=>0)<1500:=by
  cases hd:o.dst with
  | none=>simp
  | some d=>exact Nat.lt_of_lt_of_le (aco d hd) hnt
 simp only [A8] at rY
 cases hg:ya ops s' o.guard with
 | none=>simp only [hg] at rY; exact (bM r0 rY).elim
 | some pq =>
  obtain ⟨p0,q0⟩:=pq
  simp only [hg] at rY
  obtain ⟨g1,g2,g3,g4⟩:=Nz hT hG ht HE hg
  have fin:∀ {v0:AV} {δ0:Dl},(∀ K:List (Nat×Bool)×Bool×AV×Dl->Option R,K (p0,q0,v0,δ0)=K (p,q,v,δ))->p0=p/\q0=q/\v0=v/\δ0=δ:=by
   intro v0 δ0 h
   have:=iU r0 h
   simp only [zG] at this
   exact this
  have plain:∀ {v0:AV},(q0=true->Good (bZ X (fun e=>X.xV s' (p0++e)) s'.lk (match o.dst with | some d=>d | none=>0) o.type o.op) v0) ->
    (∀ K:List (Nat×Bool)×Bool×AV×Dl->Option R,K (p0,q0,v0,Dl.z)=K (p,q,v,δ)) ->
    ((∀ x∈p,x.1∈D)/\(q=true↔tv a p))/\(if Region.wanted o (yielded ops a.tmps) then o.wp X.P a w next Q else next (a.put o.dst undef) w):=fun Yf hK=>by
   obtain ⟨rfl,rfl,rfl,rfl⟩:=fin hK
   refine ⟨⟨g1,g2⟩,?_⟩
   have e:S.app Dl.z=S:=rfl
   rw [g3]
   cases hq:q0 with
   | true =>
    have QO:=g2.1 hq
    obtain ⟨u,hu,hr⟩:=Sb hX hm hR (evp:=fun e=>X.xV s' (p0++e)) (fun ty x=>by rw [List.append_nil]; exact sr hT hG ht QO ty x)
     (fun ty t x xa xb hx=>by
      have hv:=sr hT hG ht QO ty (.tmp t)
      simp only [List.append_nil] at hx
      rw [hx] at hv
      have hv:a.eval (.tmp t)= .bool x:=hv
      have SN:tv a (p0++[(t,x)]):=by
       intro y hy
       rcases zH.1 hy with hy | hy
       ·exact QO y hy
       ·simp at hy; rw [hy]; exact hv
      exact ⟨fun hx=>by rw [hx] at SN; exact sr hT hG ht SN ty xa,fun hx=>by rw [hx] at SN; exact sr hT hG ht SN ty xb⟩) (Yf hq)
    simp only [if_true,Oper.wp,hu,Oper.upon]
    exact hn γ w u (Kx hR cm) (by rw [e]; exact Ed (by first | rfl | exact hq) hr)
   | false =>
    have hp:p0≠[]:=fun h=>by have:=g4 h; rw [hq] at this; cases this
    simp only [Bool.false_eq_true,if_false]
    exact hn γ w undef (Kx hR cm) (by rw [hq]; exact Kv hp)
  have W2:∀ {v0:AV} {δ0:Dl},p0=[]->(bZ X (fun e=>X.xV s' (p0++e)) s'.lk (match o.dst with | some d=>d | none=>0) o.type o.op= .w0 v0 δ0\/bZ X (fun e=>X.xV s' (p0++e)) s'.lk (match o.dst with | some d=>d | none=>0) o.type o.op= .w true v0 δ0) ->
    (∀ K:List (Nat×Bool)×Bool×AV×Dl->Option R,K (p0,q0,v0,δ0)=K (p,q,v,δ)) ->
    ((∀ x∈p,x.1∈D)/\(q=true↔tv a p))/\(if Region.wanted o (yielded ops a.tmps) then o.wp X.P a w next Q else next (a.put o.dst undef) w):=fun lJ pS hK=>by
   obtain ⟨rfl,rfl,rfl,rfl⟩:=fin hK
   refine ⟨⟨g1,g2⟩,?_⟩
   have hq:=g4 lJ
   rw [g3,hq]
   have QO:=g2.1 hq
   obtain ⟨r,u,w',γ',h1,h2,h3,h4⟩:=U6 hX hR cm hm (ρ:=a.eval) (fun ty x=>by rw [List.append_nil]; exact sr hT hG ht QO ty x) JA pS
   simp only [if_true,Oper.wp,h1]
   rcases h2 with rfl | ⟨rfl,rfl⟩
   ·simp only [Oper.upon]; exact hn γ' w' u h4 (Ed hq h3)
   ·simp only [Oper.upon]; exact hn γ' w' undef h4 (Ed hq h3)
  revert rY; split
  ·
   rename_i f args argTypes K5
   split
   ·rename_i fid caps Zm
    split
    ·intro rY; exact (bM r0 rY).elim
    ·rename_i sig acj
     split
     ·intro rY; exact (bM r0 rY).elim
     ·rename_i ar Px
      split
      ·rename_i cH ow bb K6 Cd PV
       intro rY
       have Zm:X.xV s' (p0++[]) 0 f= .c (.fn fid caps):=Zm
       let ja:=rW (X.xV s' (p0++[]) 0) args.toList++rW (fun v=>AV.c (.pv v 0)) caps
       let c:bL:=⟨s'.lk,sig,ja,ar,cH,ow,bb⟩
       simp only [zB] at PV
       have xt:c.Ok:=⟨Px,K6,Cd,zQ PV.1,zQ PV.2⟩
       obtain ⟨Py,abL⟩:=hE.fn fid sig acj
       have after:∀ cr:CR,(∀ K:List (Nat×Bool)×Bool×AV×Dl->Option R,(match s'.lk.after sig ja ar cr ow (match o.dst with | some d=>d | none=>0) with
         | none=>none
         | some (v,δ)=>match AI p0 sig ar v with
          | true=>K (p0,q0,v,δ)
          | false=>none)=K (p,q,v,δ)) ->
         p0=p/\q0=q/\s'.lk.after sig ja ar cr ow (match o.dst with | some d=>d | none=>0)=some (v,δ)/\AI p sig ar v=true:=by
        intro cr hK
        cases ha:s'.lk.after sig ja ar cr ow (match o.dst with | some d=>d | none=>0) with
        | none=>simp only [ha] at hK; exact (bM r0 hK).elim
        | some vd =>
         obtain ⟨v0,δ0⟩:=vd
         simp only [ha] at hK
         cases zl:AI p0 sig ar v0 with
         | false=>simp only [zl] at hK; exact (bM r0 hK).elim
         | true =>
          simp only [zl] at hK
          obtain ⟨rfl,rfl,rfl,rfl⟩:=fin hK
          exact ⟨rfl,rfl,rfl,zl⟩
       have comes:q0=true->(∀ K:List (Nat×Bool)×Bool×AV×Dl->Option R,(E.fn fid ar.cf cH fun cr=>match s'.lk.after sig ja ar cr ow (match o.dst with | some d=>d | none=>0) with
         | none=>none
         | some (v,δ)=>match AI p0 sig ar v with
          | true=>K (p0,q0,v,δ)
          | false=>none)=K (p,q,v,δ)) ->
         ((∀ x∈p,x.1∈D)/\(q=true↔tv a p))/\(if Region.wanted o (yielded ops a.tmps) then o.wp X.P a w next Q else next (a.put o.dst undef) w):=by
        intro hq hK
        obtain ⟨oc,ry⟩:=hE.FA fid ar.cf cH
        cases oc with
        | none=>exact (bM r0 fun K=>by have:=hK K; rw [ry] at this; exact this).elim
        | some cr =>
         have QL:=after cr fun K=>by have:=hK K; rw [ry] at this; exact this
         obtain ⟨rfl,rfl,ha,_⟩:=QL
         refine ⟨⟨g1,g2⟩,?_⟩
         rw [g3,hq]
         have QO:=g2.1 hq
         have Zs:=sr hT hG ht QO 0 f
         rw [List.append_nil] at Zm
         rw [Zm] at Zs
         obtain ⟨SO,Zs⟩:=Zs
         let vals:=args.toList.map a.eval++caps.map fun k=>Value.pointer (some ⟨γ.vb k,0,none⟩)
         have ng:(execOp a.eval o).run X.P w= .ok (.enter fid vals.toArray) w:=by
          have he:execOp a.eval o=(do let d←resolve a.eval ⟨.value f,args,argTypes⟩ o.type; invoke d.target d.args):=by
           simp only [execOp,K5]
          rw [he]
          simp only [resolve,Sem.run_bind,Deferred.ofValue,Zs,Sem.run_pure,Result.andThen_ok,invoke]
          rw [IG abL]
          congr 2
          apply Array.toList_inj.1
          simp [vals]
         have VG:lH S.lk γ ja vals:=by
          have h1:∀ l:List Operand,lH S.lk γ (rW (X.xV s' (p0++[]) 0) l) (l.map a.eval):=by
           intro l
           induction l with
           | nil=>exact .nil
           | cons x l ih=>exact .cons (by rw [List.append_nil]; exact sr hT hG ht QO 0 x) ih
          have h2:∀ l:List Nat,(∀ k∈l,∃ cs,S.lk.v k=some cs)->lH S.lk γ (rW (fun v=>AV.c (.pv v 0)) l) (l.map fun k=>Value.pointer (some ⟨γ.vb k,0,none⟩)):=by
           intro l
           induction l with
           | nil=>intro _; exact .nil
           | cons x l ih=>intro h; exact .cons ⟨h x zO,rfl⟩ (ih fun k hk=>h k (zJ _ hk))
          have ac4:∀ {l l':List AV} {u u':List Value},lH S.lk γ l u->lH S.lk γ l' u'->lH S.lk γ (l++l') (u++u'):=by
           intro l l' u u' h h'
           induction h with
           | nil=>exact h'
           | cons hx _ ih=>exact .cons hx ih
          exact ac4 (h1 _) (h2 _ SO)
         have X7:c.HH X S γ w vals:=⟨xt,hm,hR,cm,VG⟩
         simp only [if_true,Oper.wp,ng,Oper.upon]
         refine (Py.ok ar.cf cH cr (fun k=>by rw [ry]; rfl) _ w vals X7.pre).mono ?_
         rintro e w1 ⟨u,rfl,Ye⟩
         obtain ⟨γ',pS,hr⟩:=Sw X7 Ye JA ha
         exact hn γ' w1 u pS (Ed hq hr)
       by_cases YH:p0=[]
       ·have X1:∀ (f:(CR->Option R)->Option R) (d:CR) (k:CR->Option R),DS p0 q0 f d k=f k:=by intro f d k; rw [YH]
        exact comes (g4 YH) fun K=>by have:=rY K; rw [X1] at this; exact this
       ·have X1:∀ (f:(CR->Option R)->Option R) (d:CR) (k:CR->Option R),DS p0 q0 f d k=f fun cr=>match IY q0 cr d with | some c=>k c | none=>none:=by
         intro f d k; cases lJ:p0 with
         | nil=>exact absurd lJ YH
         | cons x p1=>rfl
        obtain ⟨oc,ry⟩:=hE.FA fid ar.cf cH
        cases oc with
        | none=>exact (bM r0 fun K=>by have:=rY K; rw [X1,ry] at this; exact this).elim
        | some cr1 =>
        cases pU:IY q0 cr1 ⟨sig.dr,cH,s'.lk.Ew ar.io⟩ with
        | none=>exact (bM r0 fun K=>by have:=rY K; rw [X1,ry] at this; simp only [Option.bind,pU] at this; exact this).elim
        | some c1 =>
        have YL:=fun K=>by have:=rY K; rw [X1,ry] at this; simp only [Option.bind,pU] at this; exact this
        have pU:=RU pU
        rcases Bool.eq_false_or_eq_true q0 with hq | hq
        ·have bQ:c1=cr1:=by rw [pU,hq]; rfl
         exact comes hq fun K=>by have:=YL K; rw [bQ] at this; rw [ry]; exact this
        ·have bQ:c1=⟨sig.dr,cH,s'.lk.Ew ar.io⟩:=by rw [pU,hq]; rfl
         have Vs:=after ⟨sig.dr,cH,s'.lk.Ew ar.io⟩ fun K=>by have:=YL K; rw [bQ] at this; exact this
         obtain ⟨rfl,rfl,ha,zl⟩:=Vs
         rw [hq] at g3
         refine ⟨⟨g1,g2⟩,?_⟩
         rw [g3]
         simp only [Bool.false_eq_true,if_false]
         have abC:=Lm YH zl
         obtain ⟨b1,b2,b3,b4,b5⟩:=abC
         obtain ⟨γ',pS⟩:=RB hR cm hm JA K6 Cd ha b1 b2 b3 b4 b5
         exact hn γ' w undef pS (by rw [hq]; exact Kv YH)
      ·intro rY; exact (bM r0 rY).elim
   ·intro rY; exact (bM r0 rY).elim
  ·
   split
   ·intro rY; exact (bM r0 rY).elim
   ·rename_i v0 pS
    intro rY
    exact plain (fun _=> .inl pS) rY
   ·rename_i c v0 pS
    intro rY
    cases hc:ck p0 q0 c with
    | false=>exact (bM r0 fun K=>by have:=rY K; rw [hc] at this; exact this).elim
    | true =>
     refine plain (fun hq=> .inr ?_) (fun K=>by have:=rY K; rw [hc] at this; exact this)
     have:c=true:=by
      simp only [ck] at hc
      revert hc; split
      ·exact id
      ·rw [hq]; simp
     rw [← this]; exact pS
   ·rename_i v0 δ0 pS
    cases lJ:p0 with
    | nil=>intro rY; exact W2 lJ (.inl (by rw [lJ]; rw [lJ] at pS; exact pS)) (fun K=>by rw [lJ]; exact rY K)
    | cons x p1=>intro rY; exact (bM r0 rY).elim
   ·rename_i c v0 δ0 pS
    cases lJ:p0 with
    | nil =>
     intro rY
     cases hc:c with
     | false=>exact (bM r0 fun K=>by have:=rY K; rw [hc] at this; exact this).elim
     | true=>exact W2 lJ (.inr (by rw [lJ]; rw [lJ,hc] at pS; exact pS)) (fun K=>by rw [lJ]; have:=rY K; rw [hc] at this; exact this)
    | cons x p1=>intro rY; exact (bM r0 rY).elim
end
end Go.Soft
namespace Go.Soft
open Go
variable {X:Ctx} {m M:Lk} {γ γ':Gh} {w w':World} {ρ:Operand->Value} {S:St} {δ:Dl}
structure Inv (X:Ctx) (e0:Lk) (γ0:Gh) (w0:World) (S:St) (γ:Gh) (a:Act) (w:World):Prop where
 rel:Rel X S.lk γ w
 top:∀ g,w.heap.size<=g->γ.O g=none
 tmp:EC X S γ a
 df:a.defers=[]
 fr:Fr γ0.O w0 γ.O w
 i3:∀ k row,100000<=k->k<400000->S.lk.r k=some row->row.ow=1->e0.r k=some row/\γ.rv k=γ0.rv k/\γ.cv k=γ0.cv k
 i4:∀ k,200000<=k->k<300000->γ.rv k=γ0.rv k
 i2:∀ k,k<1000->γ.vb k=γ0.vb k
theorem Je (S:St) (d:Option Nat) (v:AV):(S.put d v).lk=S.lk:=by cases d<;>rfl
theorem Jb (S:St) (d:Option Nat) (v:AV) (t:Nat):lk (S.put d v).tm t=if d=some t then some v else lk S.tm t:=by
 cases d with
 | none=>simp [St.put]
 | some d =>
  show (match Nat.beq d t with | true=>some v | false=>lk S.tm t)=_
  cases h:Nat.beq d t with
  | true=>have:=aG h; subst this; simp
  | false =>
   have:d≠t:=by rintro rfl; rw [Nat.beq_refl] at h; cases h
   simp [this]
theorem J2 (a:Act) (d:Option Nat) (u:Value) (t:Nat) (hd:∀ x,d=some x->x<a.tmps.size):(a.put d u).tmps.getD t undef=if d=some t then u else a.tmps.getD t undef:=by
 cases d with
 | none=>simp [Act.put]
 | some d =>
  have:=hd d rfl
  simp only [Act.put,Array.getD_eq_getD_getElem?,Array.getElem?_setIfInBounds]
  by_cases h:d=t
  ·subst h; simp [this]
  ·simp [h]
theorem NB (a:Act) (d:Option Nat) (u:Value):(a.put d u).tmps.size=a.tmps.size:=by cases d<;>simp [Act.put]
theorem UL (a:Act) (d:Option Nat) (u:Value):(a.put d u).defers=a.defers:=by cases d<;>rfl
section
variable {e0:Lk} {γ0:Gh} {w0:World} {a:Act}
theorem Inv.step (hI:Inv X e0 γ0 w0 S γ a w) (hs:Step X S γ w δ γ' w') {d:Option Nat} (hd:∀ x,d=some x->x<X.nt) {v:AV} {u:Value} (hu:bk (S.app δ).lk γ' v u) :
  Inv X e0 γ0 w0 ((S.app δ).put d v) γ' (a.put d u) w':=by
 have zY:=Je (S.app δ) d v
 have mi:∀ x,d=some x->x<a.tmps.size:=fun x hx=>Nat.lt_of_lt_of_le (hd x hx) hI.tmp.1
 refine ⟨by rw [zY]; exact hs.rel,hs.fr.top,⟨by rw [NB]; exact hI.tmp.1,fun t av ht=> ?_⟩,by rw [UL]; exact hI.df,hI.fr.trans hs.fr,fun k row h1 h2 hr ho=> ?_,fun k h1 h2=> ?_,fun k hk=> ?_⟩
 ·rw [Jb] at ht
  rw [J2 a d u t mi,zY]
  by_cases h:d=some t
  ·rw [if_pos h] at ht ⊢; cases ht; exact hu
  ·rw [if_neg h] at ht ⊢
   rw [N3] at ht
   cases hl:lk S.tm t with
   | none=>rw [hl] at ht; cases ht
   | some av0 =>
    rw [hl] at ht; simp only [Option.map_some,zA] at ht; subst ht
    exact (hI.tmp.2 t av0 hl).map hs.qg (by rfl)
 ·rw [zY,kZ] at hr
  cases hz:fk δ.rs k with
  | some r =>
   rw [hz] at hr; simp only at hr; subst hr
   have:=hs.k1 k row hz ho; omega
  | none =>
   rw [hz] at hr
   obtain ⟨a1,a2,a3⟩:=hI.i3 k row h1 h2 hr ho
   obtain ⟨b1,b2⟩:=hs.kp k row hz hr
   exact ⟨a1,b1.trans a2,b2.trans a3⟩
 ·exact (hs.io k h1 h2).trans (hI.i4 k h1 h2)
 ·exact (hs.vb k hk).trans (hI.i2 k hk)
theorem yg.step {D:List Nat} (hG:yg D S a) {d:Option Nat} {D':List Nat} (hD:∀ x∈D,x∈D') (hd:∀ x,d=some x->x∉D/\x<a.tmps.size) {p:List (Nat×Bool)} {q:Bool} {v:AV} {u:Value}
  (hp:(∀ x∈p,x.1∈D)/\(q=true↔tv a p)):yg D' ((S.app δ).put d (gd p q v)) (a.put d u):=by
 have stable:∀ p':List (Nat×Bool),(∀ x∈p',x.1∈D)->(tv (a.put d u) p'↔tv a p'):=by
  intro p' yp
  have:∀ x∈p',(a.put d u).tmps.getD x.1 undef=a.tmps.getD x.1 undef:=by
   intro x hx
   rw [J2 a d u x.1 fun y hy=>(hd y hy).2]
   rw [if_neg]
   intro h
   exact (hd x.1 h).1 (yp x hx)
  exact ⟨fun h x hx=>by rw [← this x hx]; exact h x hx,fun h x hx=>by rw [this x hx]; exact h x hx⟩
 refine ⟨fun t p' q' v' ht=> ?_⟩
 rw [Jb] at ht
 by_cases h:d=some t
 ·rw [if_pos h] at ht
  simp only [zA] at ht
  have:p'=p/\q'=q:=by
   cases p with
   | nil=>exfalso; revert ht; cases v<;>simp [gd,uP]
   | cons x p=>simp only [gd,AV.g.injEq] at ht; exact ⟨ht.1.symm,ht.2.1.symm⟩
  obtain ⟨rfl,rfl⟩:=this
  exact ⟨fun x hx=>hD _ (hp.1 x hx),hp.2.trans (stable p' hp.1).symm⟩
 ·rw [if_neg h,N3] at ht
  cases hl:lk S.tm t with
  | none=>rw [hl] at ht; cases ht
  | some av =>
   rw [hl] at ht; simp only [Option.map_some,zA] at ht
   cases av with
   | g p0 q0 v0 =>
    simp only [ky,AV.g.injEq] at ht
    obtain ⟨rfl,rfl,_⟩:=ht
    obtain ⟨g1,g2⟩:=hG.g t _ _ _ hl
    exact ⟨fun x hx=>hD _ (g1 x hx),g2.trans (stable _ g1).symm⟩
   | _=>simp [ky] at ht
theorem Dz (l:List (Nat×AV)) (t:Nat):lk (iV l) t=(lk l t).map uP:=by
 induction l with
 | nil=>rfl
 | cons p l ih =>
  obtain ⟨k,v⟩:=p
  simp only [iV,lk,ih]
  cases Nat.beq k t<;>rfl
theorem Inv.drop (hI:Inv X e0 γ0 w0 S γ a w):Inv X e0 γ0 w0 ⟨iV S.tm,S.vs,S.rs⟩ γ a w:=by
 refine ⟨hI.rel,hI.top,⟨hI.tmp.1,fun t av ht=> ?_⟩,hI.df,hI.fr,hI.i3,hI.i4,hI.i2⟩
 have ht:lk (iV S.tm) t=some av:=ht
 rw [Dz] at ht
 cases hl:lk S.tm t with
 | none=>rw [hl] at ht; cases ht
 | some av0 =>
  rw [hl] at ht; simp only [Option.map_some,zA] at ht; subst ht
  exact yd (hI.tmp.2 t av0 hl)
def pA (S:St):Prop:=∀ t p q v,lk S.tm t≠some (.g p q v)
theorem AO (S:St):pA ⟨iV S.tm,S.vs,S.rs⟩:=by
 intro t p q v h
 have h:lk (iV S.tm) t=some (.g p q v):=h
 rw [Dz] at h
 cases hl:lk S.tm t with
 | none=>rw [hl] at h; cases h
 | some av=>rw [hl] at h; simp only [Option.map_some,zA] at h; cases av<;>simp [uP] at h
theorem vA (h:pA S):yg [] S a:=⟨fun t p q v hl=>absurd hl (h t p q v)⟩
theorem sI:∀ {l:List Oper} {d:Nat},d∈lb l↔∃ o∈l,o.dst=some d
 | [],d=>by simp [lb]
 | o::l,d=>by
  simp only [lb]
  cases ho:o.dst with
  | none=>simp [sI,ho]
  | some e =>
   simp only [zI,sI,exists_eq_or_imp,ho,zA]
   exact ⟨fun h=>h.elim (fun h=> .inl h.symm) .inr,fun h=>h.elim (fun h=> .inl h.symm) .inr⟩
theorem sx (a b:List Oper):lb (a++b)=lb a++lb b:=by
 induction a with
 | nil=>rfl
 | cons o a ih=>simp only [List.cons_append,lb,ih]; cases o.dst<;>rfl
theorem Gr:∀ {l:List Oper} {n:Nat},L4 n l=true->∀ (i:Nat) (o:Oper),l[i]? =some o->∀ j w,o.guard=some (j,w)->j<n+i
 | [],n,_,i,o,h,_,_,_=>by simp at h
 | x::l,n,hg,i,o,h,j,w,ho=>by
  simp only [L4,zB] at hg
  cases i with
  | zero =>
   simp only [List.getElem?_cons_zero,zA] at h; subst h
   rw [ho] at hg
   have:Nat.ble (j+1) n=true:=hg.1
   have:=zQ this; omega
  | succ i=>have:=Gr hg.2 i o (by simpa using h) j w ho; omega
structure Oq (X:Ctx) (ops:Array Oper):Prop where
 nd:(lb ops.toList).Nodup
 lt:∀ d∈lb ops.toList,d<X.nt
 nt:X.nt<=1500
 gd:∀ (i:Nat) (o:Oper),ops[i]? =some o->∀ j w,o.guard=some (j,w)->j<i
theorem WZ {ops:Array Oper} (h:(fv (lb ops.toList)&&(sL X.nt (lb ops.toList)&&(Nat.ble X.nt 1500&&L4 0 ops.toList)))=true):Oq X ops:=by
 simp only [zB] at h
 refine ⟨gE.1 h.1,nI.1 h.2.1,zQ h.2.2.1,fun i o ho j w hg=> ?_⟩
 have:=Gr h.2.2.2 i o (by simpa using ho) j w hg
 omega
variable {R:Type} {E:Env R}
theorem Nw (r0:R) (hX:iy X) (hE:sM X E) {ops:Array Oper} (hr:Oq X ops) {Q:Exit->Act->World->Prop} {s':St} {fp':List Fp} (hQ:∀ γ' a' w',Inv X e0 γ0 w0 s' γ' a' w'->Q .normal a' w') :
  ∀ (l pre:List Oper) (S:St) (γ:Gh) (a:Act) (w:World) (fp:List Fp),ops.toList=pre++l->Inv X e0 γ0 w0 S γ a w->yg (lb pre) S a ->
   (∀ K:St×List Fp->Option R,(gr X E ops false l S fp fun s f=>K (s,f))=K (s',fp'))->wpOps X.P ops Q (List.range' pre.length l.length) a w
 | [],pre,S,γ,a,w,fp,_,hI,_,hK=>by
  have:=iU r0 hK
  simp only [zG] at this
  exact hQ γ a w (this.1▸hI)
 | o::l,pre,S,γ,a,w,fp,hl,hI,hG,hK=>by
  have SX:ops[pre.length]? =some o:=by
   rw [← Array.getElem?_toList,hl]; simp
  simp only [zR,List.range'_succ,wpOps,SX]
  obtain ⟨oc,ry⟩:=um (X:=X) hE.FA ops S o
  cases oc with
  | none =>
   exact False.elim<|bM r0 (α:=St×List Fp) (y:=(s',fp')) fun K=>by
    have h1:=hK K
    have h2:=ry fun x=>gr X E ops false l ((S.app x.2.2.2).put o.dst (gd x.1 x.2.1 x.2.2.1)) fp fun s f=>K (s,f)
    exact h2.symm.trans h1
  | some x =>
   obtain ⟨p,q,v,δ⟩:=x
   have QL:∀ K:St×List Fp->Option R,(gr X E ops false l ((S.app δ).put o.dst (gd p q v)) fp fun s f=>K (s,f))=K (s',fp'):=by
    intro K
    have h1:=hK K
    have h2:=ry fun x=>gr X E ops false l ((S.app x.2.2.2).put o.dst (gd x.1 x.2.1 x.2.2.1)) fp fun s f=>K (s,f)
    exact h2.symm.trans h1
   have Ck:∀ d,o.dst=some d->d<X.nt:=fun d hd=>hr.lt d (by rw [hl,sx]; simp [lb,hd])
   have hdn:∀ d,o.dst=some d->d∉lb pre:=by
    intro d hd hm
    have:=hr.nd
    rw [hl,sx] at this
    exact (List.nodup_append.1 this).2.2 d hm d (by simp [lb,hd]) rfl
   have xj:∀ x∈lb pre,x∈lb (pre++[o]):=fun x hx=>by rw [sx]; exact List.mem_append_left _ hx
   have HE:∀ j w,o.guard=some (j,w)->∀ oj t,ops[j]? =some oj->oj.dst=some t->t∈lb pre:=by
    intro j w hg oj t hj ht
    have fM:=hr.gd pre.length o SX j w hg
    have hj2:pre[j]? =some oj:=by
     rw [← Array.getElem?_toList,hl,List.getElem?_append_left fM] at hj; exact hj
    exact sI.2 ⟨oj,List.mem_of_getElem? hj2,ht⟩
   have rY:=Ky r0 hX hE hI.rel hI.top hI.tmp hG (Le.refl S.lk) (fun _ _ h=>h) hr.nt Ck HE (v:=v) (δ:=δ) (p:=p) (q:=q) (s':=S) (fun K=>ry K)
    (next:=wpOps X.P ops Q (List.range' (pre.length+1) l.length)) (Q:=Q)
   have hgp:(∀ x∈p,x.1∈lb pre)/\(q=true↔tv a p):=(Ky r0 hX hE hI.rel hI.top hI.tmp hG (Le.refl S.lk) (fun _ _ h=>h) hr.nt Ck HE (v:=v) (δ:=δ) (p:=p) (q:=q) (s':=S) (fun K=>ry K)
    (next:=fun _ _=>True) (Q:=Q) (fun _ _ _ _ _=>trivial)).1
   have xq:=(rY fun γ' w' u pS hu=>by
    have:=Nw r0 hX hE hr hQ l (pre++[o]) ((S.app δ).put o.dst (gd p q v)) γ' (a.put o.dst u) w' fp (by rw [hl]; simp) (hI.step pS Ck hu)
     (hG.step xj (fun x hx=>⟨hdn x hx,Nat.lt_of_lt_of_le (Ck x hx) hI.tmp.1⟩) hgp) QL
    simpa using this).2
   cases hw:Region.wanted o (yielded ops a.tmps) with
   | true=>rw [hw] at xq; simp only [if_true] at xq ⊢; exact .inl xq
   | false=>rw [hw] at xq; simpa using xq
end
end Go.Soft
namespace Go.Soft
open Go
variable {X:Ctx} {m M:Lk} {γ γ':Gh} {w w':World} {ρ:Operand->Value} {S T:St} {δ δ':Dl}
theorem vR {α:Type} {l:List (Nat×α)} {k:Nat} (h:k∉keys l):fk l k=none:=by
 induction l with
 | nil=>rfl
 | cons p l ih =>
  obtain ⟨j,v⟩:=p
  simp only [keys,zI,not_or] at h
  simp only [fk,ih h.2]
  rw [if_neg (Ne.symm h.1)]
theorem A3 {α:Type} {l:List (Nat×α)} {k:Nat} {v:α} (h:fk l k=some v):(k,v)∈l:=by
 induction l with
 | nil=>cases h
 | cons p l ih =>
  obtain ⟨j,u⟩:=p
  simp only [fk] at h
  cases hz:fk l k with
  | some x=>simp only [hz,zA] at h; subst h; exact zJ _ (ih hz)
  | none =>
   simp only [hz] at h
   by_cases hj:j=k
   ·rw [if_pos hj] at h; cases h; subst hj; exact zO
   ·rw [if_neg hj] at h; cases h
theorem wT {a:Nat} {l:List Nat} (h:a∉l):cg a l=false:=by
 cases hh:cg a l with
 | false=>rfl
 | true=>exact absurd (fg.1 hh) h
theorem sZ {l m:List Nat}:rU l m=true↔∃ x∈l,x∈m:=by
 induction l with
 | nil=>simp [rU]
 | cons x l ih =>
  simp only [rU]
  cases h:cg x m with
  | true=>exact ⟨fun _=>⟨x,zO,fg.1 h⟩,fun _=>rfl⟩
  | false =>
   have:x∉m:=fun hm=>by rw [fg.2 hm] at h; cases h
   simp only [ih,zI,exists_eq_or_imp,this,false_or]
theorem RY {l m:List Nat} (h:∀ x∈l,x∉m):rU l m=false:=by
 cases hh:rU l m with
 | false=>rfl
 | true=>obtain ⟨x,h1,h2⟩:=sZ.1 hh; exact absurd h2 (h x h1)
theorem Lq {r:Nat}:r∈δ.j6↔r∈keys δ.mv\/r∈δ.kr\/r∈δ.ke\/r∈δ.kn:=by simp [Dl.j6]
theorem qh {r:Nat} (h:r∉δ.j6):lk δ.mv r=none/\cg r δ.kr=false/\cg r δ.ke=false/\cg r δ.kn=false:=by
 rw [Lq] at h
 simp only [not_or] at h
 exact ⟨cG.2 h.1,wT h.2.1,wT h.2.2.1,wT h.2.2.2⟩
theorem oF {x:Cv} (hr:∀ r∈x.rk,r∉δ.j6) (hv:∀ k∈x.vk,k∉δ.kv):δ.map x=x:=by
 cases x with
 | pv v c=>simp only [Dl.map,wT (hv v (by simp [Cv.vk]))]
 | fn f l=>simp only [Dl.map,RY (fun k hk=>hv k (by simpa [Cv.vk] using hk))]
 | sw r=>obtain ⟨a,b,c,d⟩:=qh (hr r (by simp [Cv.rk,Cv.row])); simp only [Dl.map,a,b]
 | sl r o n=>obtain ⟨a,b,c,d⟩:=qh (hr r (by simp [Cv.rk,Cv.row])); simp only [Dl.map,a,b,c]
 | pe r o n=>obtain ⟨a,b,c,d⟩:=qh (hr r (by simp [Cv.rk,Cv.row])); simp only [Dl.map,a,b,c]
 | nw r _ _=>obtain ⟨a,b,c,d⟩:=qh (hr r (by simp [Cv.rk,Cv.row])); simp only [Dl.map,a,b,c,d]
 | ns r _ _ _ _=>obtain ⟨a,b,c,d⟩:=qh (hr r (by simp [Cv.rk,Cv.row])); simp only [Dl.map,a,b,c,d]
 | pn r _ _ _ _=>obtain ⟨a,b,c,d⟩:=qh (hr r (by simp [Cv.rk,Cv.row])); simp only [Dl.map,a,b,c,d]
 | _=>rfl
theorem EV {l:List (Nat×(Nat×Nat×Nat))} {r d e c:Nat} (h:lk l r=some (d,e,c)):d∈Rt l:=by
 have:=cO h
 clear h
 induction l with
 | nil=>cases this
 | cons p l ih =>
  obtain ⟨j,d',ec⟩:=p
  rcases zI.1 this with h | h
  ·simp only [zG] at h; obtain ⟨_,rfl,_⟩:=h; exact zO
  ·exact zJ _ (ih h)
theorem Ii (x:Cv):(∀ r∈(δ.map x).rk,r∈x.rk\/r∈Rt δ.mv)/\(∀ k∈(δ.map x).vk,k∈x.vk):=by
 have un:∀ y:Cv,(∀ r∈Cv.un.rk,r∈y.rk\/r∈Rt δ.mv)/\(∀ k∈Cv.un.vk,k∈y.vk):=fun y=>⟨fun r h=>by simp [Cv.rk,Cv.row] at h,fun k h=>by simp [Cv.vk] at h⟩
 have me:∀ y:Cv,(∀ r∈y.rk,r∈y.rk\/r∈Rt δ.mv)/\(∀ k∈y.vk,k∈y.vk):=fun y=>⟨fun r h=> .inl h,fun k h=>h⟩
 cases x with
 | pv v c=>simp only [Dl.map]; split<;>first | exact un _ | exact me _
 | fn f l=>simp only [Dl.map]; split<;>first | exact un _ | exact me _
 | sw r =>
  simp only [Dl.map]; split
  ·rename_i d e c h; exact ⟨fun r hr=> .inr (by simp [Cv.rk,Cv.row] at hr; rw [hr]; exact EV h),fun k hk=>by simp [Cv.vk] at hk⟩
  ·split<;>first | exact un _ | exact me _
 | sl r o n =>
  simp only [Dl.map]; split
  ·rename_i d e c h; exact ⟨fun r hr=> .inr (by simp [Cv.rk,Cv.row] at hr; rw [hr]; exact EV h),fun k hk=>by simp [Cv.vk] at hk⟩
  ·split<;>first | exact un _ | exact me _
 | pe r o n =>
  simp only [Dl.map]; split
  ·rename_i d e c h; exact ⟨fun r hr=> .inr (by simp [Cv.rk,Cv.row] at hr; rw [hr]; exact EV h),fun k hk=>by simp [Cv.vk] at hk⟩
  ·split<;>first | exact un _ | exact me _
 | nw r _ _ =>
  simp only [Dl.map]; split
  ·exact un _
  ·split<;>first | exact un _ | exact me _
 | ns r _ _ _ _ =>
  simp only [Dl.map]; split
  ·exact un _
  ·split<;>first | exact un _ | exact me _
 | pn r _ _ _ _ =>
  simp only [Dl.map]; split
  ·exact un _
  ·split<;>first | exact un _ | exact me _
 | _=>exact me _
theorem OA (h:∀ r,(r∈Rt δ.mv\/r∈δ.j6)->¬(r∈Rt δ'.mv\/r∈δ'.j6)) (x:Cv):δ.map (δ'.map x)=δ'.map (δ.map x):=by
 have row:∀ r,x.rk=[r]->x.vk=[]->δ.map (δ'.map x)=δ'.map (δ.map x):=by
  intro r hr hv
  have novk:∀ (d:Dl) (k:Nat),k∈(d.map x).vk->False:=fun d k hk=>by have:=(Ii (δ:=d) x).2 k hk; rw [hv] at this; simp at this
  by_cases h1:r∈δ.j6
  ·have h2:r∉δ'.j6:=fun hm=>h r (.inr h1) (.inr hm)
   have e1:δ'.map x=x:=oF (fun y hy=>by rw [hr] at hy; simp at hy; rw [hy]; exact h2) (fun k hk=>by rw [hv] at hk; simp at hk)
   rw [e1]
   refine (oF (fun y hy=> ?_) fun k hk=>(novk δ k hk).elim).symm
   rcases (Ii (δ:=δ) x).1 y hy with hy | hy
   ·rw [hr] at hy; simp at hy; rw [hy]; exact h2
   ·exact fun hm=>h y (.inl hy) (.inr hm)
  ·have e1:δ.map x=x:=oF (fun y hy=>by rw [hr] at hy; simp at hy; rw [hy]; exact h1) (fun k hk=>by rw [hv] at hk; simp at hk)
   rw [e1]
   refine oF (fun y hy=> ?_) fun k hk=>(novk δ' k hk).elim
   rcases (Ii (δ:=δ') x).1 y hy with hy | hy
   ·rw [hr] at hy; simp at hy; rw [hy]; exact h1
   ·exact fun hm=>h y (.inr hm) (.inl hy)
 cases x with
 | pv v c =>
  simp only [Dl.map]
  cases h1:cg v δ.kv<;>cases h2:cg v δ'.kv<;>simp [Dl.map,h1,h2]
 | fn f l =>
  simp only [Dl.map]
  cases h1:rU l δ.kv<;>cases h2:rU l δ'.kv<;>simp [Dl.map,h1,h2]
 | sw r=>exact row r rfl rfl
 | sl r _ _=>exact row r rfl rfl
 | pe r _ _=>exact row r rfl rfl
 | nw r _ _=>exact row r rfl rfl
 | ns r _ _ _ _=>exact row r rfl rfl
 | pn r _ _ _ _=>exact row r rfl rfl
 | _=>rfl
theorem An {l:List Cv} {r:Nat}:r∈va l↔∃ x∈l,r∈x.rk:=by
 induction l with
 | nil=>simp [va]
 | cons x l ih=>simp [va,ih]
theorem Bz {l:List Cv} {r:Nat}:r∈vF l↔∃ x∈l,r∈x.vk:=by
 induction l with
 | nil=>simp [vF]
 | cons x l ih=>simp [vF,ih]
theorem NG {l:List (Bool×List Cv)} {x:Cv}:x∈OJ l↔∃ p∈l,x∈p.2:=by
 induction l with
 | nil=>simp [OJ]
 | cons p l ih=>obtain ⟨b,cs⟩:=p; simp [OJ,ih]
theorem tC {f:Cv->Cv} {l:List Cv} (h:∀ x∈l,f x=x):l.map f=l:=by
 induction l with
 | nil=>rfl
 | cons x l ih=>rw [List.map_cons,h x zO,ih fun y hy=>h y (zJ _ hy)]
theorem xX {f:Cv->Cv}:∀ {v:AV},(∀ x∈v.CJ,f x=x)->ky f v=v
 | .c x,h=>by simp only [ky]; rw [h x (by simp [AV.CJ])]
 | .a l,h=>by simp only [ky]; rw [tC (l:=l) h]
 | .t l,h=>by
  simp only [ky]
  congr 1
  have:∀ p∈l,(p.1,p.2.map f)=p:=fun p hp=>by rw [tC fun x hx=>h x (NG.2 ⟨p,hp,hx⟩)]
  clear h
  induction l with
  | nil=>rfl
  | cons p l ih=>rw [List.map_cons,this p zO,ih fun y hy=>this y (zJ _ hy)]
 | .g p q v,h=>by simp only [ky]; rw [xX (v:=v) h]
theorem DT {f g:Cv->Cv} (h:∀ x,f (g x)=g (f x)):∀ v:AV,ky f (ky g v)=ky g (ky f v)
 | .c x=>by simp only [ky,h]
 | .a l=>by simp only [ky,List.map_map]; congr 1; exact List.map_congr_left fun x _=>h x
 | .t l=>by
  simp only [ky,List.map_map]; congr 1
  refine List.map_congr_left fun p _=> ?_
  simp only [Function.comp,List.map_map]; congr 1
  exact List.map_congr_left fun x _=>h x
 | .g p q v=>by simp only [ky]; rw [DT h v]
structure Mt (R V:List Nat) (l:List Cv):Prop where
 r:∀ r∈va l,r∉R
 v:∀ k∈vF l,k∉V
theorem Mt.cell {l:List Cv} (h:Mt δ.j6 δ.kv l):∀ x∈l,δ.map x=x:=fun x hx =>
 oF (fun r hr=>h.r r (An.2 ⟨x,hx,hr⟩)) fun k hk=>h.v k (Bz.2 ⟨x,hx,hk⟩)
theorem Mt.list {l:List Cv} (h:Mt δ.j6 δ.kv l):l.map δ.map=l:=tC h.cell
theorem Mt.val {v:AV} (h:Mt δ.j6 δ.kv v.CJ):ky δ.map v=v:=xX h.cell
structure Cy (S T:St):Prop where
 t:∀ t,lk S.tm t=lk T.tm t
 r:∀ k,S.lk.r k=T.lk.r k
 v:∀ k,S.lk.v k=T.lk.v k
theorem Cy.refl (S:St):Cy S S:=⟨fun _=>rfl,fun _=>rfl,fun _=>rfl⟩
theorem Cy.symm (h:Cy S T):Cy T S:=⟨fun t=>(h.t t).symm,fun t=>(h.r t).symm,fun t=>(h.v t).symm⟩
theorem Cy.trans {U:St} (h:Cy S T) (h':Cy T U):Cy S U:=⟨fun t=>(h.t t).trans (h'.t t),fun t=>(h.r t).trans (h'.r t),fun t=>(h.v t).trans (h'.v t)⟩
theorem Cy.lk (h:Cy S T):S.lk=T.lk:=by
 have h1:S.lk.r=T.lk.r:=funext h.r
 have h2:S.lk.v=T.lk.v:=funext h.v
 cases hs:S.lk; cases ht:T.lk
 rw [hs,ht] at h1 h2
 simp only at h1 h2
 rw [h1,h2]
theorem Inv.eqv {e0:Lk} {γ0:Gh} {w0:World} {a:Act} (h:Inv X e0 γ0 w0 S γ a w) (he:Cy S T):Inv X e0 γ0 w0 T γ a w:=by
 have hl:=he.lk
 refine ⟨hl▸h.rel,h.top,⟨h.tmp.1,fun t av ht=> ?_⟩,h.df,h.fr,by rw [← hl]; exact h.i3,h.i4,h.i2⟩
 rw [← he.t] at ht
 rw [← hl]
 exact h.tmp.2 t av ht
theorem yg.eqv {D:List Nat} {a:Act} (h:yg D S a) (he:Cy S T):yg D T a:=⟨fun t p q v ht=>h.g t p q v (by rw [he.t]; exact ht)⟩
structure Rec where
 o:Oper
 p:List (Nat×Bool)
 q:Bool
 v:AV
 δ:Dl
def ln (S:St) (x:Rec):St:=(S.app x.δ).put x.o.dst (gd x.p x.q x.v)
theorem xI (S:St) (x:Rec) (t:Nat):lk (ln S x).tm t=if x.o.dst=some t then some (gd x.p x.q x.v) else (lk S.tm t).map (ky x.δ.map):=by
 simp only [ln,Jb,N3]
theorem xw (S:St) (x:Rec) (k:Nat):(ln S x).lk.r k=match fk x.δ.rs k with | some r=>r | none=>S.lk.r k:=by
 simp only [ln,Je,kZ]; cases fk x.δ.rs k<;>rfl
theorem xW (S:St) (x:Rec) (k:Nat):(ln S x).lk.v k=match fk x.δ.vs k with | some cs=>some cs | none=>(S.lk.v k).map (List.map x.δ.map):=by
 simp only [ln,Je,oy]; cases fk x.δ.vs k<;>rfl
theorem OF (h:Cy S T) (x:Rec):Cy (ln S x) (ln T x) :=
 ⟨fun t=>by rw [xI,xI,h.t],fun k=>by rw [xw,xw,h.r],fun k=>by rw [xW,xW,h.v]⟩
def Rec.wr (x:Rec):List Nat:=Rt x.δ.mv++(x.δ.j6++keys x.δ.rs)
def Rec.wv (x:Rec):List Nat:=x.δ.kv++keys x.δ.vs
def Rec.ro (x:Rec):List Nat:=va x.v.CJ++va (vcs x.δ.vs)
def Rec.vo (x:Rec):List Nat:=vF x.v.CJ++vF (vcs x.δ.vs)
structure XC (x y:Rec):Prop where
 d:∀ t,x.o.dst=some t->y.o.dst≠some t
 w:∀ r∈x.wr,r∉y.wr
 v:∀ k∈x.wv,k∉y.wv
 xr:∀ r∈x.wr,r∉y.ro
 xv:∀ k∈x.δ.kv,k∉y.vo
 yr:∀ r∈y.wr,r∉x.ro
 yv:∀ k∈y.δ.kv,k∉x.vo
theorem Um (p:List (Nat×Bool)) (q:Bool) (v:AV):∀ x∈(gd p q v).CJ,x∈v.CJ\/x= .un:=by
 intro x hx
 cases p with
 | nil=>cases v<;>simp_all [gd,uP,AV.CJ]
 | cons y p=>exact .inl hx
theorem Rec.far (x y:Rec) (h1:∀ r∈y.wr,r∉x.ro) (h2:∀ k∈y.δ.kv,k∉x.vo):ky y.δ.map (gd x.p x.q x.v)=gd x.p x.q x.v/\∀ k cs,fk x.δ.vs k=some cs->cs.map y.δ.map=cs:=by
 refine ⟨xX fun c hc=> ?_,fun k cs iX=>tC fun c hc=> ?_⟩
 ·rcases Um _ _ _ c hc with hc | rfl
  ·exact oF (fun r hr hk=>h1 r (by simp [Rec.wr,hk]) (by simp only [Rec.ro,zH]; exact .inl (An.2 ⟨c,hc,hr⟩)))
    fun k hk hm=>h2 k hm (by simp only [Rec.vo,zH]; exact .inl (Bz.2 ⟨c,hc,hk⟩))
  ·rfl
 ·have eF:c∈vcs x.δ.vs:=by
   have:=A3 iX
   revert this
   generalize x.δ.vs=l
   induction l with
   | nil=>intro h; cases h
   | cons p l ih =>
    obtain ⟨j,l'⟩:=p
    intro h
    simp only [vcs,zH]
    rcases zI.1 h with h | h
    ·simp only [zG] at h; exact .inl (h.2▸hc)
    ·exact .inr (ih h)
  exact oF (fun r hr hk=>h1 r (by simp [Rec.wr,hk]) (by simp only [Rec.ro,zH]; exact .inr (An.2 ⟨c,eF,hr⟩)))
    fun k hk hm=>h2 k hm (by simp only [Rec.vo,zH]; exact .inr (Bz.2 ⟨c,eF,hk⟩))
theorem MD (S:St) {x y:Rec} (h:XC x y):Cy (ln (ln S x) y) (ln (ln S y) x):=by
 obtain ⟨x1,x2⟩:=Rec.far x y h.yr h.yv
 obtain ⟨y1,y2⟩:=Rec.far y x h.xr h.xv
 have Hx:∀ c,y.δ.map (x.δ.map c)=x.δ.map (y.δ.map c):=fun c=>(OA (δ:=x.δ) (δ':=y.δ) (fun r hr cz=>h.w r (by simp [Rec.wr]; rcases hr with hr | hr<;>simp [hr]) (by simp [Rec.wr]; rcases cz with hr | hr<;>simp [hr])) c).symm
 refine ⟨fun t=> ?_,fun k=> ?_,fun k=> ?_⟩
 ·simp only [xI]
  by_cases hx:x.o.dst=some t
  ·have hy:=h.d t hx
   simp only [hx,hy,if_true,if_false,Option.map_some,x1]
  ·by_cases hy:y.o.dst=some t
   ·simp only [hx,hy,if_true,if_false,Option.map_some,y1]
   ·simp only [hx,hy,if_false,Option.map_map]
    congr 1
    exact funext fun v=>DT Hx v
 ·simp only [xw]
  cases hx:fk x.δ.rs k with
  | none=>rfl
  | some r =>
   have:k∉keys y.δ.rs:=fun hk=>h.w k (by simp only [Rec.wr,zH]; exact .inr (.inr (mem_keys (A3 hx)))) (by simp only [Rec.wr,zH]; exact .inr (.inr hk))
   rw [vR this]
 ·simp only [xW]
  cases hx:fk x.δ.vs k with
  | none =>
   cases hy:fk y.δ.vs k with
   | none =>
    simp only [Option.map_map]
    congr 1
    funext l
    simp only [Function.comp,List.map_map]
    exact List.map_congr_left fun c _=>Hx c
   | some cs=>simp only [Option.map_some,y2 k cs hy]
  | some cs =>
   have:k∉keys y.δ.vs:=fun hk=>h.v k (by simp only [Rec.wv,zH]; exact .inr (mem_keys (A3 hx))) (by simp only [Rec.wv,zH]; exact .inr hk)
   rw [vR this]
   simp only [Option.map_some,x2 k cs hx]
def rS (L:Nat->Bool):Nat->St->List Rec->St
 | _,S,[]=>S
 | n,S,x::l=>rS L (n+1) (bif L n then ln S x else S) l
theorem KA (L:Nat->Bool):∀ (l:List Rec) (n:Nat) {S T:St},Cy S T->Cy (rS L n S l) (rS L n T l)
 | [],_,_,_,h=>h
 | x::l,n,S,T,h=>by
  simp only [rS]
  refine KA L l (n+1) ?_
  cases L n
  ·exact h
  ·exact OF h x
theorem qZ (L:Nat->Bool):∀ (l l':List Rec) (n:Nat) (S:St),rS L n S (l++l')=rS L (n+l.length) (rS L n S l) l'
 | [],_,_,_=>rfl
 | x::l,l',n,S=>by
  simp only [List.cons_append,rS,zR]
  rw [qZ L l l' (n+1),Nat.add_assoc,Nat.add_comm 1]
theorem xF {L L':Nat->Bool}:∀ (l:List Rec) (n:Nat) (S:St),(∀ k,n<=k->k<n+l.length->L k=L' k)->rS L n S l=rS L' n S l
 | [],_,_,_=>rfl
 | x::l,n,S,h=>by
  simp only [rS]
  rw [h n (Nat.le_refl n) (by simp),xF l (n+1) _ fun k h1 h2=>h k (by omega) (by simp; omega)]
theorem Ej {L:Nat->Bool}:∀ (l:List Rec) (n:Nat) (S:St),(∀ k,n<=k->k<n+l.length->L k=true)->rS L n S l=l.foldl ln S
 | [],_,_,_=>rfl
 | x::l,n,S,h=>by
  simp only [rS,List.foldl_cons]
  rw [h n (Nat.le_refl n) (by simp),Ej l (n+1) _ fun k h1 h2=>h k (by omega) (by simp; omega)]
  rfl
theorem FY {L:Nat->Bool}:∀ (l:List Rec) (n:Nat) (S:St),(∀ k,n<=k->k<n+l.length->L k=false)->rS L n S l=S
 | [],_,_,_=>rfl
 | x::l,n,S,h=>by
  simp only [rS]
  rw [h n (Nat.le_refl n) (by simp)]
  exact FY l (n+1) _ fun k h1 h2=>h k (by omega) (by simp; omega)
theorem Hl (L:Nat->Bool) (x:Rec):∀ (l:List Rec) (n:Nat) (S:St),(∀ (k:Nat) (y:Rec),l[k]? =some y->L (n+k)=true->XC x y)->Cy (rS L n (ln S x) l) (ln (rS L n S l) x)
 | [],_,_,_=>Cy.refl _
 | y::l,n,S,h=>by
  simp only [rS]
  have ih:=fun T=>Hl L x l (n+1) T fun k z hk hL=>h (k+1) z (by simpa using hk) (by rw [← hL]; congr 1; omega)
  cases hL:L n with
  | false=>exact ih S
  | true=>exact (KA L l (n+1) (MD S (h 0 y rfl (by simpa using hL)))).trans (ih _)
structure Fz (KT KV KR:List Nat) (S T:St):Prop where
 t:∀ t∈KT,lk S.tm t=lk T.tm t
 v:∀ k∈KV,S.lk.v k=T.lk.v k
 r:∀ k∈KR,S.lk.r k=T.lk.r k
variable {KT KV KR:List Nat}
theorem Fz.both (h:Fz KT KV KR S T) (x:Rec):Fz KT KV KR (ln S x) (ln T x) :=
 ⟨fun t ht=>by rw [xI,xI,h.t t ht],fun k hk=>by rw [xW,xW,h.v k hk],fun k hk=>by rw [xw,xw,h.r k hk]⟩
structure L8 (KT KV KR:List Nat) (S:St) (x:Rec):Prop where
 d:∀ t∈KT,x.o.dst≠some t
 t:∀ t∈KT,∀ v,lk S.tm t=some v->Mt x.δ.j6 x.δ.kv v.CJ
 k:∀ k∈KV,k∉keys x.δ.vs
 v:∀ k∈KV,∀ cs,S.lk.v k=some cs->Mt x.δ.j6 x.δ.kv cs
 r:∀ k∈KR,k∉keys x.δ.rs
theorem L8.agr {x:Rec} (h:L8 KT KV KR S x):Fz KT KV KR (ln S x) S:=by
 refine ⟨fun t ht=> ?_,fun k hk=> ?_,fun k hk=> ?_⟩
 ·rw [xI,if_neg (h.d t ht)]
  cases hl:lk S.tm t with
  | none=>rfl
  | some v=>simp only [Option.map_some,(h.t t ht v hl).val]
 ·rw [xW,vR (h.k k hk)]
  cases hl:S.lk.v k with
  | none=>rfl
  | some cs=>simp only [Option.map_some,(h.v k hk cs hl).list]
 ·rw [xw,vR (h.r k hk)]
theorem Fz.trans {U:St} (h:Fz KT KV KR S T) (h':Fz KT KV KR T U):Fz KT KV KR S U:=⟨fun t ht=>(h.t t ht).trans (h'.t t ht),fun t ht=>(h.v t ht).trans (h'.v t ht),fun t ht=>(h.r t ht).trans (h'.r t ht)⟩
theorem Fz.symm (h:Fz KT KV KR S T):Fz KT KV KR T S:=⟨fun t ht=>(h.t t ht).symm,fun t ht=>(h.v t ht).symm,fun t ht=>(h.r t ht).symm⟩
theorem L8.congr {x:Rec} (h:L8 KT KV KR S x) (ha:Fz KT KV KR S T):L8 KT KV KR T x :=
 ⟨h.d,fun t ht v hv=>h.t t ht v (by rw [ha.t t ht]; exact hv),h.k,fun k hk cs hc=>h.v k hk cs (by rw [ha.v k hk]; exact hc),h.r⟩
theorem Kh (L:Nat->Bool):∀ (l:List Rec) (n:Nat) (S T:St),Fz KT KV KR S T->(∀ (k:Nat) (x:Rec),l[k]? =some x->L (n+k)=false->L8 KT KV KR ((l.take k).foldl ln S) x) ->
  Fz KT KV KR (l.foldl ln S) (rS L n T l)
 | [],_,_,_,h,_=>h
 | x::l,n,S,T,h,ho=>by
  simp only [List.foldl_cons,rS]
  refine Kh L l (n+1) (ln S x) _ ?_ fun k y hk hL=> ?_
  ·cases hL:L n with
   | true=>exact h.both x
   | false=>exact ((ho 0 x rfl (by simpa using hL)).agr).trans h
  ·have:=ho (k+1) y (by simpa using hk) (by rw [← hL]; congr 1; omega)
   simpa using this
theorem KF (L:Nat->Bool):∀ (l:List Rec) (n:Nat) (S T:St),Fz KT KV KR S T->(∀ (k:Nat) (x:Rec),l[k]? =some x->L (n+k)=true->L8 KT KV KR S x)->Fz KT KV KR S (rS L n T l)
 | [],_,_,_,h,_=>h
 | x::l,n,S,T,h,ho=>by
  simp only [rS]
  refine KF L l (n+1) S _ ?_ fun k y hk hL=>ho (k+1) y (by simpa using hk) (by rw [← hL]; congr 1; omega)
  cases hL:L n with
  | true=>exact h.trans (((ho 0 x rfl (by simpa using hL)).congr h).agr).symm
  | false=>exact h
theorem EI {α:Type} (ks:List Nat) (l:List (Nat×α)) (k:Nat):lk (Bp ks l) k=if k∈ks then lk l k else none:=by
 induction l with
 | nil=>simp [Bp,lk]
 | cons p l ih =>
  obtain ⟨j,v⟩:=p
  simp only [Bp]
  cases h:cg j ks with
  | true =>
   simp only [lk,ih]
   cases hj:Nat.beq j k with
   | true=>have:=aG hj; subst this; simp [fg.1 h]
   | false=>rfl
  | false =>
   simp only [ih,lk]
   cases hj:Nat.beq j k with
   | true =>
    have:=aG hj; subst this
    have:j∉ks:=fun hm=>by rw [fg.2 hm] at h; cases h
    simp [this]
   | false=>rfl
end Go.Soft
