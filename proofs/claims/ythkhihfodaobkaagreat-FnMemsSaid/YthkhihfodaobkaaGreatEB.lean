import Derived.Test.YthkhihfodaobkaaGreatEA
import Derived.Laws.IdiomCopy
set_option linter.constructorNameAsVariable false
set_option linter.unusedSimpArgs false
set_option linter.unusedVariables false
namespace Go.Soft
open Go
variable {X:Ctx} {m M:Lk} {γ γ':Gh} {w w':World} {ρ:Operand->Value} {S:St} {δ:Dl}
def RV (m:Lk) (key:Nat) (row:Row) (mv:List (Nat×(Nat×Nat))) (sh:List (Nat×Nat)):Dl:={ Dl.z with kr:=key::keys mv,rs:=gone mv++(m.share sh++[(key,some row)]) }
theorem B4 {key:Nat} {row:Row} {mv:List (Nat×(Nat×Nat))} {sh:List (Nat×Nat)} (kX:(key::(keys mv++keys sh)).Nodup) (hp:∀ r k,(r,k)∈sh->∃ row,m.r r=some row) (k:Nat) :
  fh (RV m key row mv sh).rs k=if key=k then some (some row) else match lk sh k with
   | some n=>(m.r k).map (fun row=>some { row with ow:=n })
   | none=>if k∈keys mv then some none else none :=
 xT (m:=m) (r:=key) (row':=row) (a:=⟨[],mv,sh,5⟩) kX hp k
theorem Su (hR:Rel X S.lk γ w) (cj:∀ g,w.heap.size<=g->γ.O g=none) (hm:Le m S.lk) {a:Ro} {row:Row} {v:Value} {cs:List Value} {nb:Option Nat} (kX:a.apart)
  (FH:∀ r k,(r,k)∈a.sh->∃ row,m.r r=some row/\((k=3/\nO 4 row.ow=true)\/(k=4/\row.ow=5))) (hn:∀ g,some g=nb->w.heap.size<=g/\g<w'.heap.size)
  (YQ:w'.os=w.os) (Cw:w'.tape=w.tape) (vL:w'.output=w.output) (mn:w.heap.size<=w'.heap.size) (hb:∀ g,g<w.heap.size->w'.heap[g]? =w.heap[g]?)
  (bo:cS X (a.O γ.O nb) w' a.key row v cs) (SM:eu row.ow=true) (uz:a.key<100000) :
  let γ':Gh:={ γ with O:=a.O γ.O nb,rv:=dZ γ.rv a.key v,cv:=dZ γ.cv a.key cs }
  Step X S γ w (RV m a.key row a.mv a.sh) γ' w'/\bp (S.app (RV m a.key row a.mv a.sh)).lk γ' (.sw a.key) v:=by
 intro γ'
 have JB:∀ r k,(r,k)∈a.sh->∃ row,m.r r=some row:=fun r k h=>let ⟨row,h1,_⟩:=FH r k h; ⟨row,h1⟩
 have tq:JU a.R γ w γ' w':=a.WS cj YQ Cw vL mn hn (fun g hg _=>hb g hg) (fun r hr=>by simp [dZ,hr])
 have Ng:∀ k,k∈keys a.mv->lk a.sh k=none:=by
  intro k hk
  rw [cH]; intro uy
  have:=kX; simp only [Ro.apart,List.nodup_cons,List.nodup_append] at this
  exact this.2.2.2 k hk k uy rfl
 have rn:(S.app (RV m a.key row a.mv a.sh)).lk.r a.key=some row:=by rw [kO,B4 kX JB]; simp
 have Fx:∀ k rk,cd k (RV m a.key row a.mv a.sh).kr=false->S.lk.r k=some rk->k≠a.key /\
   ∃ rk',(S.app (RV m a.key row a.mv a.sh)).lk.r k=some rk'/\rk'.τ=rk.τ/\rk'.xs.length=rk.xs.length/\∀ e,rk'.cs e=rk.cs e:=by
  intro k rk hk Fx
  have hk:¬ k∈a.key::keys a.mv:=fun h=>by rw [← fb] at h; have hk:cd k (a.key::keys a.mv)=false:=hk; rw [h] at hk; cases hk
  simp only [zI,not_or] at hk
  refine ⟨hk.1,?_⟩
  rw [kO,B4 kX JB,if_neg (Ne.symm hk.1)]
  cases hl:lk a.sh k with
  | none=>simp only [hk.2,if_false]; exact ⟨rk,Fx,rfl,rfl,fun _=>rfl⟩
  | some n =>
   obtain ⟨row2,h2⟩:=JB k n (cM hl)
   have h3:=hm.r k row2 h2
   rw [Fx] at h3; cases h3
   simp only [h2,Option.map_some]
   exact ⟨_,rfl,rfl,rfl,fun _=>rfl⟩
 refine ⟨lU hR rfl tq ?_ ?_ ?_ (fun k rk h h1=>by
  rw [B4 kX JB] at h
  by_cases kV:a.key=k
  ·rw [if_pos kV] at h; cases h; exact absurd h1 (tZ SM)
  ·rw [if_neg kV] at h
   cases hl:lk a.sh k with
   | none=>rw [hl] at h; simp only at h; split at h<;>cases h
   | some n =>
    rw [hl] at h; simp only at h
    obtain ⟨row2,h2,h3⟩:=FH k n (cM hl)
    rw [h2] at h; simp only [Option.map_some,zA] at h; subst h
    exfalso; rcases h3 with ⟨h3,_⟩ | ⟨h3,_⟩<;>rw [h3] at h1<;>cases h1) (fun k h1 _=>by simp [γ',dZ,show k≠a.key by omega]),⟨row,rn⟩,by simp [γ',dZ]⟩
 ·refine mA hR rfl (fun k rk hk kV=> ?_) (fun k rk rk' hk kV _ h=> ?_) (fun k kV _ _=>⟨fun rk rk' hk h=> ?_⟩) (fun k c hk _=>⟨?_,rfl⟩)
  ·obtain ⟨cL,rk',h1,_⟩:=Fx k rk kV hk
   exact ⟨⟨rk',h1⟩,by simp [γ',dZ,cL]⟩
  ·obtain ⟨cL,rk2,h1,h2,h3,_⟩:=Fx k rk kV hk
   rw [h] at h1; cases h1
   exact ⟨h2,by omega⟩
  ·obtain ⟨cL,rk2,h1,h2,h3,h4⟩:=Fx k rk kV hk
   rw [h] at h1; cases h1
   intro e c τ ys _ hc
   exact ⟨⟨ys,by rw [h4]; exact hc,Nat.le_refl _⟩,by simp [γ',dZ,cL]⟩
  ·rw [nZ]; exact ⟨_,by simp [RV,Dl.z,fh,hk]; rfl⟩
 ·intro k rk h
  rw [B4 kX JB] at h
  by_cases kV:a.key=k
  ·subst kV
   rw [if_pos rfl] at h; cases h
   simpa [γ',dZ] using bo
  ·rw [if_neg kV] at h
   cases hl:lk a.sh k with
   | none =>
    rw [hl] at h; simp only at h
    split at h<;>cases h
   | some n =>
    rw [hl] at h; simp only at h
    obtain ⟨row2,h2,h3⟩:=FH k n (cM hl)
    rw [h2] at h; simp only [Option.map_some,zA] at h; subst h
    have:=a.shared (w:=w) (w':=w') (γ:=γ) kX (nb:=nb) (fun g h=>(hn g h).1) cj (fun g hg _=>hb g hg) (hR.rs k row2 (hm.r k row2 h2)) (cM hl) h3
    simpa [γ',dZ,Ne.symm kV] using this
 ·intro k rk h hk VP
  rw [B4 kX JB] at h
  by_cases kV:a.key=k
  ·rw [if_pos kV] at h; cases h
  ·rw [if_neg kV] at h
   rcases VP with h1 | h1 | h1
   ·exact kV h1.symm
   ·rw [Ng k h1] at h; simp [h1] at h
   ·cases hl:lk a.sh k with
    | none=>exact absurd h1 (cH.1 hl)
    | some n =>
     obtain ⟨row2,h2⟩:=JB k n (cM hl)
     rw [hl] at h; simp [h2] at h
theorem Hn (hR:Rel X S.lk γ w) {f:Operand->AV} (hf:∀ o,bn S.lk γ (f o) (ρ o)) {z:Nat}:∀ (parts:List (Nat×Operand)) (n:Nat) (pss:List (List Cv)),partsOf f z n parts=some pss ->
  FX S.lk γ pss (parts.map fun p=>(ρ p.2).cells.toList)/\∀ (j:Nat) (p:Nat×Operand),parts[j]? =some p->p.1=n+j/\(ρ p.2).cells.size=z
 | [],n,pss,h=>by simp only [partsOf,zA] at h; subst h; exact ⟨.nil,by simp⟩
 | (i,o)::parts,n,pss,h=>by
  simp only [partsOf] at h
  revert h; split
  ·rename_i cs r hi hc hr
   split
   ·rename_i hz
    intro h; cases h
    obtain ⟨h1,h2⟩:=Hn hR hf parts (n+1) r hr
    have oU:=pR hR (hf o) hc
    have zb:=aF hi
    have hlen:=aF hz
    have mn:(ρ o).cells.size=z:=by have:=oU.length; simp at this; omega
    refine ⟨.cons oU h1,fun j p hj=> ?_⟩
    cases j with
    | zero=>simp at hj; subst hj; exact ⟨by simpa using zb,mn⟩
    | succ j=>obtain ⟨h3,h4⟩:=h2 j p (by simpa using hj); exact ⟨by omega,h4⟩
   ·intro h; cases h
  ·intro h; cases h
theorem Hf (hX:iy X) (hR:Rel X S.lk γ w) (cj:∀ g,w.heap.size<=g->γ.O g=none) (hm:Le m S.lk) {t:TypeId} {τ:Ty} (ht:X.lE t=some τ) {n key:Nat} {parts:Array (Nat×Operand)} {f:Operand->AV}
  (hf:∀ o,bn S.lk γ (f o) (ρ o)) (hn:parts.size=n) (hsm:n*sz τ<=2 ^ 24) {pss:List (List Cv)} (hp:partsOf f (sz τ) 0 parts.toList=some pss) {b:Xn τ} (hb:m.jZ τ 0 pss=some b)
  (kX:(key::(keys b.mv++keys b.sh)).Nodup) (xi:τ.isByte=true->b.ok=true) (uz:key<100000) :
  ∃ v w' γ',(Instr.buildSlice t n (parts.map fun (i,x)=>(i,ρ x))).run X.P w= .ok v w'/\Step X S γ w (RV m key ⟨τ,b.ys,b.lv⟩ b.mv b.sh) γ' w' /\
   bp (S.app (RV m key ⟨τ,b.ys,b.lv⟩ b.mv b.sh)).lk γ' (.sw key) v:=by
 obtain ⟨hu,z9⟩:=nL ht
 obtain ⟨i,z,hi,hz,hs,_,_,_⟩:=sJ hX ht
 obtain ⟨oU,ng⟩:=Hn hR hf parts.toList 0 pss hp
 let ps:Array (Nat×Value):=parts.map fun (i,x)=>(i,ρ x)
 have hps:ps.toList=parts.toList.map fun p=>(p.1,ρ p.2):=by simp [ps]
 have ni:=Sj (w:=w) (P:=X.P) (parts:=ps) hu hi hz hs (oE τ) hsm (by simp [ps,hn]) (fun j p hj=>by
  rw [hps,List.getElem?_map] at hj
  cases hq:parts.toList[j]? with
  | none=>rw [hq] at hj; cases hj
  | some q =>
   rw [hq] at hj; simp only [Option.map_some,zA] at hj; subst hj
   obtain ⟨h1,h2⟩:=ng j q hq
   exact ⟨by simpa using h1,h2⟩)
 have tp:=C6 hb
 have gN:eu b.lv=true:=by rcases tp with h | h | h<;>rw [h]<;>rfl
 let a:Ro:=⟨key,b.lv,false,fun _ _=>true,b.mv,b.sh⟩
 let vss:=parts.toList.map fun p=>(ρ p.2).cells.toList
 have Tt:(ps.toList.flatMap fun p=>p.2.cells.toList)=vss.flatten:=by
  rw [hps]; simp only [List.flatMap,List.map_map]; rfl
 have VZ:=a.W2 (M:=S.lk) kX tp (w:=w) (w':=w.alloc (.cells (ps.toList.flatMap fun p=>p.2.cells.toList).toArray (X.id τ))) (γ:=γ) (nb:=some w.heap.size) (fun g h=>by cases h; exact Nat.le_refl _) cj
  (xs:=pss.flatten) (fun g o hg _=>by rw [heap_alloc_old w _ g (bV hg)]; exact hg)
 obtain ⟨e1,e2,e3,e4⟩:=La hm hR (key:=key) tp pss vss 0 b oU hb (Nat.le_refl _) xi VZ
 have KN:pss.length=n:=by rw [← e3]; simp [vss,hn]
 have M4:vss.flatten.length=n*sz τ:=by
  have:∀ (l:List (List Value)),(∀ (j:Nat) (vs:List Value),l[j]? =some vs->vs.length=sz τ)->l.flatten.length=l.length*sz τ:=by
   intro l
   induction l with
   | nil=>simp
   | cons x l ih =>
    intro h
    have h0:=h 0 x rfl
    have:=ih (fun j vs hj=>h (j+1) vs (by simpa using hj))
    simp only [List.flatten_cons,zK,zR,Nat.add_mul,this,h0]; omega
  rw [this vss e2]; simp [vss,hn]
 refine ⟨_,_,_,ni,Su (a:=a) (row:=⟨τ,b.ys,b.lv⟩) (v:= .slice (some ⟨w.heap.size,0,none⟩) n n) (cs:=vss.flatten) (nb:=some w.heap.size) hR cj hm kX (fun r k h=>DO hb h)
  (fun g h=>by cases h; exact ⟨Nat.le_refl _,by simp⟩) rfl rfl rfl (by simp) (fun g hg=>heap_alloc_old w _ g hg) ?_ gN uz⟩
 refine ⟨?_,fun e c ct he dg=> ?_⟩
 ·have:dN key b.lv= .own (.r key):=by simp [dN,gN]
  show Sl X _ _ (dN key b.lv) τ _ b.ys.length _
  rw [this,e1,KN]
  refine ⟨⟨M4,.inr ⟨w.heap.size,n,_,rfl,Nat.zero_le _,heap_alloc_new w _,Nat.le_refl _,?_,by rw [Tt]; simp [M4],?_⟩⟩,fun g hg=> ?_⟩
  ·have:=oE τ
   have h1:n*1<=n*sz τ:=Nat.mul_le_mul_left _ this
   simp only [maxLen]; omega
  ·rw [Tt,List.toList_toArray,← M4,List.take_length]
  ·have:w.heap.size=g:=by simpa [Value.ownBlock] using hg
   simp [Ro.O,this,a]
 ·have T3:e<pss.length:=by rw [← e1]; exact he
  obtain ⟨u,oT,eD⟩:=e4 e c ct T3 dg
  exact ⟨u,oT,by simpa using eD⟩
theorem IL {P:Program} {t ty e:TypeId} {i:TypeInfo} {z:Value} {size bytes:Nat} (ht:P.underlying t=some (.slice e)) (hi:P.info? e=some i) (hz:i.zero=some z)
  (rH:i.size=size) (MS:i.bytes=bytes) (Jq:z.cells.size=size) (mn:0<size) {v:Value} {n:Nat} {xs:List Value} (gN:w.ownsRow 0 e size v n xs)
  {a:Addr} {k c:Nat} {news:List Value} (hl:news.length=k*size) (KZ:∀ j u,news[j]? =some u->w.cell? (a.add j)=some u) (h1:∀ u∈news,u.oneCell'=true)
  (VD:n+k<=maxLen) (Jx:(n+k)*bytes<=140737488355328) :
  ∃ v' w',(Builtin.append_ #[t,t] ty #[v,.slice (some a) k c]).run P w= .ok v' w'/\w'.ownsRow 0 e size v' (n+k) (xs++news)/\w.grownBy w' v.ownBlock /\
   ∀ g,v'.ownBlock=some g->v.ownBlock=some g\/w.heap.size<=g:=by
 obtain ⟨v',w',hr,ho,hg,_⟩:=run_append_own (P:=P) w 0 t ty e i z size bytes ht hi hz rH MS Jq mn v n xs gN a k c news hl KZ h1 VD Jx (Nat.zero_le _)
 refine ⟨v',w',hr,ho,hg,fun g Qd=> ?_⟩
 rcases gN.2 with ⟨rfl,rfl⟩ | ⟨g1,cap,cur,rfl,_,HB,HX,QF,iW,SJ⟩
 ·obtain ⟨v2,w2,fO,XU,_,_⟩:=run_append_own (P:=P) w w.heap.size t ty e i z size bytes ht hi hz rH MS Jq mn _ 0 xs ⟨gN.1,.inl ⟨rfl,rfl⟩⟩ a k c news hl KZ h1 VD Jx (Nat.le_refl _)
  rw [hr] at fO; cases fO
  exact .inr (XU.lt g Qd).1
 ·by_cases zd:n+k<=cap
  ·left
   have abN:n*i.size+news.length<=cur.size:=by rw [rH,hl,iW,← Nat.add_mul]; exact zP _ zd
   have fO:=run_append_room (P:=P) w t ty e i ht hi g1 n cap cur HB a k c news (by rw [rH]; exact hl) KZ h1 zd abN
   rw [hr] at fO; cases fO
   exact Qd
  ·right
   have fO:=run_append_grow (P:=P) w t ty e i z ht hi hz ⟨g1,0,none⟩ n cap xs (by rw [rH]; exact gN.1) (gN.cells (g:=g1) rfl) a k c news (by rw [rH]; exact hl) KZ (by omega) (by simp only [maxLen] at VD; omega)
    (growslice_fits (by omega) (by rw [MS]; exact Jx))
   rw [hr] at fO; cases fO
   have:w.heap.size=g:=by simpa [Value.ownBlock] using Qd
   omega
structure Ao where
 key:Nat
 dL:Nat
 off:Nat
 gv:Option Nat
 sh:Option Nat
def Ao.f (a:Ao):Ow->Option Ow
 | .r k=>if some k=a.gv then none else if k=a.key then none else some (.r k)
 | .n k e c=>if some k=a.gv then some (dn a.dL a.key (a.off+e) c) else if some k=a.sh then some .fz else if k=a.key then some (dn a.dL a.key e c) else some (.n k e c)
 | o=>some o
def Ao.R (a:Ao) (r:Nat):Prop:=r=a.key\/some r=a.gv\/some r=a.sh
def Ao.O (a:Ao) (O:OM) (nb:Option Nat):OM:=fun g=>if some g=nb then some (.r a.key) else (O g).bind a.f
theorem Ao.O9 (a:Ao) {o:Ow} (h:∀ r,a.R r->o≠ .r r/\∀ e c,o≠ .n r e c):a.f o=some o:=by
 cases o with
 | r k =>
  have hk:¬ a.R k:=fun hr=>(h k hr).1 rfl
  simp only [Ao.R,not_or] at hk
  simp only [Ao.f,if_neg hk.2.1,if_neg hk.1]
 | n k e c =>
  have hk:¬ a.R k:=fun hr=>(h k hr).2 e c rfl
  simp only [Ao.R,not_or] at hk
  simp only [Ao.f,if_neg hk.2.1,if_neg hk.2.2,if_neg hk.1]
 | _=>rfl
def RT (key:Nat) (row':Row) (g:List Nat) (sy:List (Nat×Option Row)):Dl:={ Dl.z with kr:=key::g,rs:=sy++[(key,some row')] }
theorem B3 {key:Nat} {row':Row} {g:List Nat} {sy:List (Nat×Option Row)} (k:Nat):fh (RT key row' g sy).rs k=if key=k then some (some row') else fh sy k:=by
 show fh (sy++[(key,some row')]) k=_
 rw [ia,Kj]; by_cases h:key=k<;>simp [h]
theorem U4 (hR:Rel X S.lk γ w) (cj:∀ g,w.heap.size<=g->γ.O g=none) {a:Ao} {row':Row} {v v':Value} {cs':List Value} {nb:Option Nat} {g:List Nat} {sy:List (Nat×Option Row)}
  (hg:∀ k,k∈g↔some k=a.gv) (Za:∀ k,fh sy k=if some k=a.gv then some none else if some k=a.sh then (S.lk.r k).map (fun row=>some { row with ow:=4 }) else none)
  (YN:a.gv≠some a.key) (TO:a.sh≠some a.key) (hgs:∀ k,some k=a.gv->some k≠a.sh) (Vf:∀ k,some k=a.sh->∃ row,S.lk.r k=some row/\row.ow=5)
  (zp:w.grownBy w' v.ownBlock) (FF:∀ g,v.ownBlock=some g->γ.O g=some (.r a.key)) (hn:∀ g,some g=nb->g<w'.heap.size/\(γ.O g=some (.r a.key)\/w.heap.size<=g))
  (bo:cS X (a.O γ.O nb) w' a.key row' v' cs') (SM:eu row'.ow=true) (uz:¬ (200000<=a.key/\a.key<300000)) :
  let γ':Gh:={ γ with O:=a.O γ.O nb,rv:=dZ γ.rv a.key v',cv:=dZ γ.cv a.key cs' }
  Step X S γ w (RT a.key row' g sy) γ' w'/\bp (S.app (RT a.key row' g sy)).lk γ' (.sw a.key) v':=by
 intro γ'
 have hO:∀ g o,γ.O g=some o->(∀ k,o≠ .r k\/k≠a.key)->a.O γ.O nb g=a.f o:=by
  intro g o ho hk
  have Ch:¬ some g=nb:=fun h=>by
   rcases (hn g h).2 with h1 | h1
   ·rw [ho] at h1; cases h1; rcases hk a.key with h | h<;>exact absurd rfl h
   ·have:=cj g h1; rw [this] at ho; cases ho
  simp only [Ao.O,if_neg Ch,ho]; rfl
 have ny:∀ g,g<w.heap.size->γ.O g≠some (.r a.key)->w'.heap[g]? =w.heap[g]? :=fun g hg ho=>zp.block g hg (fun e=>ho (FF g e.symm))
 have tq:JU a.R γ w γ' w':=by
  refine ⟨zp.os,zp.tape,zp.output,zp.size,fun g hg hk=>⟨ny g hg (hk a.key (.inl rfl)).1,?_⟩,fun g hg=> ?_,rfl,fun r hr=> ?_⟩
  ·show a.O γ.O nb g=γ.O g
   cases ho:γ.O g with
   | none =>
    have Ch:¬ some g=nb:=fun h=>by
     rcases (hn g h).2 with h1 | h1
     ·rw [ho] at h1; cases h1
     ·omega
    simp only [Ao.O,if_neg Ch,ho]; rfl
   | some o =>
    rw [ho] at hk
    rw [hO g o ho (fun k=>by
     by_cases iV:k=a.key
     ·left; rintro rfl; exact (hk a.key (.inl rfl)).1 (by rw [iV])
     ·exact .inr iV)]
    exact a.O9 fun r hr=>⟨fun e=>(hk r hr).1 (congrArg some e),fun e c e'=>(hk r hr).2 e c (congrArg some e')⟩
  ·show a.O γ.O nb g=none
   have Ch:¬ some g=nb:=fun h=>by have:=(hn g h).1; omega
   simp only [Ao.O,if_neg Ch,cj g (Nat.le_trans zp.size hg)]; rfl
  ·have:r≠a.key:=fun e=>hr (.inl e)
   simp [γ',dZ,this]
 have rn:(S.app (RT a.key row' g sy)).lk.r a.key=some row':=by rw [kO,B3]; simp
 have Fx:∀ k rk,cd k (RT a.key row' g sy).kr=false->S.lk.r k=some rk->k≠a.key /\
   ∃ rk',(S.app (RT a.key row' g sy)).lk.r k=some rk'/\rk'.τ=rk.τ/\rk'.xs.length=rk.xs.length/\∀ e,rk'.cs e=rk.cs e:=by
  intro k rk hk Fx
  have hk:¬ k∈a.key::g:=fun h=>by rw [← fb] at h; have hk:cd k (a.key::g)=false:=hk; rw [h] at hk; cases hk
  simp only [zI,not_or] at hk
  refine ⟨hk.1,?_⟩
  rw [kO,B3,if_neg (Ne.symm hk.1),Za,if_neg (fun e=>hk.2 ((hg k).2 e))]
  by_cases hs:some k=a.sh
  ·rw [if_pos hs,Fx]; exact ⟨_,rfl,rfl,rfl,fun _=>rfl⟩
  ·rw [if_neg hs]; exact ⟨rk,Fx,rfl,rfl,fun _=>rfl⟩
 refine ⟨lU hR rfl tq ?_ ?_ ?_ (fun k rk h h1=>by
  rw [B3] at h
  by_cases kV:a.key=k
  ·rw [if_pos kV] at h; cases h; exact absurd h1 (tZ SM)
  ·rw [if_neg kV,Za] at h
   by_cases Qd:some k=a.gv
   ·rw [if_pos Qd] at h; cases h
   ·rw [if_neg Qd] at h
    by_cases hs:some k=a.sh
    ·rw [if_pos hs] at h
     obtain ⟨row2,h2,h5⟩:=Vf k hs
     rw [h2] at h; simp only [Option.map_some,zA] at h; subst h
     cases h1
    ·rw [if_neg hs] at h; cases h) (fun k h1 h2=>by simp [γ',dZ,show k≠a.key by omega]),⟨row',rn⟩,by simp [γ',dZ]⟩
 ·refine mA hR rfl (fun k rk hk kV=> ?_) (fun k rk rk' hk kV _ h=> ?_) (fun k kV _ _=>⟨fun rk rk' hk h=> ?_⟩) (fun k c hk _=>⟨?_,rfl⟩)
  ·obtain ⟨cL,rk',h1,_⟩:=Fx k rk kV hk
   exact ⟨⟨rk',h1⟩,by simp [γ',dZ,cL]⟩
  ·obtain ⟨cL,rk2,h1,h2,h3,_⟩:=Fx k rk kV hk
   rw [h] at h1; cases h1
   exact ⟨h2,by omega⟩
  ·obtain ⟨cL,rk2,h1,h2,h3,h4⟩:=Fx k rk kV hk
   rw [h] at h1; cases h1
   intro e c τ ys _ hc
   exact ⟨⟨ys,by rw [h4]; exact hc,Nat.le_refl _⟩,by simp [γ',dZ,cL]⟩
  ·rw [nZ]; exact ⟨_,by simp [RT,Dl.z,fh,hk]; rfl⟩
 ·intro k rk h
  rw [B3] at h
  by_cases kV:a.key=k
  ·subst kV
   rw [if_pos rfl] at h; cases h
   simpa [γ',dZ] using bo
  ·rw [if_neg kV,Za] at h
   by_cases Qd:some k=a.gv
   ·rw [if_pos Qd] at h; cases h
   ·rw [if_neg Qd] at h
    by_cases hs:some k=a.sh
    ·rw [if_pos hs] at h
     obtain ⟨row2,h2,h5⟩:=Vf k hs
     rw [h2] at h; simp only [Option.map_some,zA] at h; subst h
     have fO:=hR.rs k row2 h2
     have:=fO.re (O':=a.O γ.O nb) (w':=w') (k':=k) (dL:=4) (by rw [h5]; rfl) (fun g o rY hi=>by
       rw [h5] at hi
       have hi:γ.O g=some (.r k):=hi
       refine ⟨(ny g (bV rY) (by rw [hi]; simp; exact Ne.symm kV)).trans rY,?_⟩
       rw [hO g _ hi (fun j=>by
        by_cases hj:j=a.key
        ·left; rw [hj]; simp; exact Ne.symm kV
        ·exact .inr hj)]
       simp only [Ao.f,if_neg Qd,if_neg (Ne.symm kV)]; rfl)
      (fun e c g o rY hi=>by
       rw [h5] at hi
       have hi:γ.O g=some (.n k e c):=hi
       refine ⟨(ny g (bV rY) (by rw [hi]; simp)).trans rY,?_⟩
       rw [hO g _ hi (fun j=> .inl (by simp))]
       simp only [Ao.f,if_neg Qd,if_pos hs]; rfl)
     simpa [γ',dZ,Ne.symm kV] using this
    ·rw [if_neg hs] at h; cases h
 ·intro k rk h hk VP
  rw [B3] at h
  by_cases kV:a.key=k
  ·rw [if_pos kV] at h; cases h
  ·rw [if_neg kV,Za] at h
   rcases VP with h1 | h1 | h1
   ·exact kV h1.symm
   ·rw [if_pos h1] at h; cases h
   ·rw [if_neg (fun e=>hgs k e h1),if_pos h1] at h
    obtain ⟨row2,h2,_⟩:=Vf k h1
    rw [h2] at h; simp at h
theorem LH {A:Nat->Prop} {ct:Ct} {v:Value} (h:B2 A w ct v):v.oneCell'=true:=by
 cases ct with
 | u=>exact h.elim
 | l τ ys=>exact h.2.Ip.one
 | _=>have h:v=_:=h; subst h; rfl
theorem Rv {A:Nat->Prop} {τ:Ty} {xs:List (El τ)} {v:Value} {cs:List Value} (h:vO A w τ xs v cs):∀ u∈cs,u.oneCell'=true:=by
 intro u hu
 obtain ⟨i,hi,rfl⟩:=List.getElem_of_mem hu
 have hz:=oE τ
 have rT:i<xs.length*sz τ:=by rw [← h.top.1]; exact hi
 have he:i/sz τ<xs.length:=Nat.div_lt_of_lt_mul (by rwa [Nat.mul_comm])
 have hc:i % sz τ<sz τ:=Nat.mod_lt _ hz
 have VU:i/sz τ*sz τ+i % sz τ=i:=by rw [Nat.mul_comm]; exact Nat.div_add_mod i (sz τ)
 have C1:(cells τ (xs.getD (i/sz τ) (cg τ)))[i % sz τ]? =some ((cells τ (xs.getD (i/sz τ) (cg τ)))[i % sz τ]'(by rw [bc]; exact hc)):=List.getElem?_eq_getElem _
 obtain ⟨u,oT,hr⟩:=h.rA _ _ _ he C1
 rw [VU,List.getElem?_eq_getElem hi] at oT
 cases oT
 exact LH hr
theorem wA {A B:Nat->Prop} {z:Nat} {v:Value} {n:Nat} {cs cs':List Value} (h:zz A w z v n cs) (h':zz B w z v n cs'):cs=cs':=by
 have l1:=h.1
 have l2:=h'.1
 rcases h.2 with ⟨_,h0⟩ | ⟨g,o,cap,cur,e,fz,hv,hg,_,_,_,ht⟩
 ·subst h0
  rw [Nat.zero_mul] at l1 l2
  rw [List.length_eq_zero_iff.1 l1,List.length_eq_zero_iff.1 l2]
 ·rcases h'.2 with ⟨_,h0⟩ | ⟨g',o',cap',cur',e',fz',Y6,rY,_,_,_,JA⟩
  ·subst h0
   rw [Nat.zero_mul] at l1 l2
   rw [List.length_eq_zero_iff.1 l1,List.length_eq_zero_iff.1 l2]
  ·rw [hv] at Y6
   obtain ⟨rfl,rfl⟩:g=g'/\o=o':=by
    injection Y6 with h1 _ _; injection h1 with h1; injection h1 with h1 h2 _; exact ⟨h1,h2⟩
   rw [hg] at rY; cases rY
   rw [← ht,← JA]
theorem I0 (hm:Le m M) (hR:Rel X M γ w) {y:Cv} {v:Value} (hy:bp M γ y v) {τ:Ty} {ys:List (El τ)} (hd:τ.deep=true) (h:(m.vw y).ct=some (.l τ ys)) {cs:List Value} {A:Nat->Prop}
  (hv:vO A w τ ys v cs):ys=[]\/∃ r row off,y.row=some r/\m.r r=some row/\row.τ=τ/\((y= .sw r/\off=0)\/∃ n,y= .sl r off n) /\
   ∀ e c ct,e<ys.length->(cells τ (ys.getD e (cg τ)))[c]? =some ct->∃ u,cs[e*sz τ+c]? =some u/\fW X γ.O w (dP r (off+e) c row.ow) ct u:=by
 cases y with
 | nl σ =>
  simp only [Lk.vw,Vw.ct,zA,Ct.l.injEq] at h
  obtain ⟨rfl,h⟩:=h; cases h; exact .inl rfl
 | sw r =>
  simp only [Lk.vw] at h
  cases hr:m.r r with
  | none=>simp [hr,Vw.ct] at h
  | some row =>
   simp only [hr,Vw.ct,zA,Ct.l.injEq] at h
   obtain ⟨rfl,h⟩:=h; cases h
   obtain ⟨_,rfl⟩:=hy
   have bo:=hR.rs r row (hm.r r row hr)
   have iW:=wA hv.top bo.top.ze
   subst iW
   refine .inr ⟨r,row,0,rfl,hr,rfl,.inl ⟨rfl,rfl⟩,fun e c ct he hc=> ?_⟩
   rw [Nat.zero_add]; exact bo.rA e c ct he hc
 | sl r off len =>
  simp only [Lk.vw] at h
  cases hr:m.r r with
  | none=>simp [hr,Vw.ct] at h
  | some row =>
   simp only [hr,Vw.ct,zA,Ct.l.injEq] at h
   obtain ⟨rfl,h⟩:=h; cases h
   obtain ⟨row',cy,hle,hs⟩:=hy
   rw [hm.r r row hr] at cy; cases cy
   have bo:=hR.rs r row (hm.r r row hr)
   have hl:=kF row.xs hle
   have rU:=bo.top.ze.sub hle hs
   have ht:=hv.top
   rw [hl] at ht
   have iW:=wA ht rU
   subst iW
   refine .inr ⟨r,row,off,rfl,hr,rfl,.inr ⟨len,rfl⟩,fun e c ct he hc=> ?_⟩
   rw [hl] at he
   rw [su row.xs _ he] at hc
   obtain ⟨u,hu,KL⟩:=bo.rA (off+e) c ct (by omega) hc
   refine ⟨u,?_,KL⟩
   have lH:c<sz row.τ:=by
    have:=(zU.1 hc).1
    rwa [bc] at this
   have:e*sz row.τ+c<len*sz row.τ:=by
    have:=zP (sz row.τ) (show e+1<=len from he)
    rw [Nat.add_mul] at this; omega
   rw [List.getElem?_take,if_pos this,List.getElem?_drop,← hu]
   congr 1; rw [Nat.add_mul]; omega
 | nw r e c =>
  simp only [Lk.vw,ij] at h
  cases hr:m.r r with
  | none=>simp [hr,Vw.ct] at h
  | some row =>
   cases hc:(row.cs e)[c]? with
   | none=>simp [hr,hc,Vw.ct] at h
   | some ct =>
    cases ct with
    | l σ zs =>
     simp only [hr,hc,Vw.ct,zA,Ct.l.injEq] at h
     obtain ⟨rfl,h⟩:=h
     have:=AK _ σ zs (List.mem_of_getElem? hc)
     rw [hd] at this; cases this
    | _=>simp [hr,hc,Vw.ct] at h
 | ns r e c off len =>
  simp only [Lk.vw,ij] at h
  cases hr:m.r r with
  | none=>simp [hr,Vw.ct] at h
  | some row =>
   cases hc:(row.cs e)[c]? with
   | none=>simp [hr,hc,Vw.ct] at h
   | some ct =>
    cases ct with
    | l σ zs =>
     simp only [hr,hc,Vw.ct,zA,Ct.l.injEq] at h
     obtain ⟨rfl,h⟩:=h
     have:=AK _ σ zs (List.mem_of_getElem? hc)
     rw [hd] at this; cases this
    | _=>simp [hr,hc,Vw.ct] at h
 | _=>simp [Lk.vw,Vw.ct] at h
theorem Vc {a:Ao} {nb:Option Nat} {τ:Ty} {xs ys:List (El τ)} {ow:Nat} {v v':Value} {cs news:List Value} (bo:cS X γ.O w a.key ⟨τ,xs,ow⟩ v cs) (YA:a.off=xs.length)
  (gN:w'.ownsRow 0 (X.id τ) (sz τ) v' (xs.length+ys.length) (cs++news)) (tp:a.dL=2\/a.dL=4\/a.dL=5) (hle:nO a.dL ow=true) (SM:eu ow=true) (YN:a.gv≠some a.key) (TO:a.sh≠some a.key)
  (hnb:∀ g,v'.ownBlock=some g->some g=nb) (ny:∀ g o,w.heap[g]? =some o->γ.O g≠some (.r a.key)->w'.heap[g]? =some o)
  (rn:∀ e c ct,e<ys.length->(cells τ (ys.getD e (cg τ)))[c]? =some ct->∃ u,news[e*sz τ+c]? =some u/\fW X (a.O γ.O nb) w' (dP a.key (xs.length+e) c a.dL) ct u)
  (SG:∀ g o,w.heap[g]? =some o->some g=nb->γ.O g=some (.r a.key)) :
  cS X (a.O γ.O nb) w' a.key ⟨τ,xs++ys,a.dL⟩ v' (cs++news):=by
 have PG:dN a.key a.dL= .own (.r a.key):=by
  have:eu a.dL=true:=by rcases tp with h | h | h<;>rw [h]<;>rfl
  simp [dN,this]
 refine ⟨?_,fun e c ct he hc=> ?_⟩
 ·show Sl X _ _ (dN a.key a.dL) τ v' (xs++ys).length _
  rw [PG,zK]
  exact ⟨gN,fun g hg=>by simp only [Ao.O,if_pos (hnb g hg)]⟩
 ·have lH:c<sz τ:=by
   have:=(zU.1 hc).1
   rwa [vq,bc] at this
  have hl:cs.length=xs.length*sz τ:=bo.top.ze.1
  by_cases hex:e<xs.length
  ·have fJ:(cells τ (xs.getD e (cg τ)))[c]? =some ct:=by
    rw [vq] at hc
    have:(xs++ys).getD e (cg τ)=xs.getD e (cg τ):=by simp [List.getD,List.getElem?_append_left hex]
    rwa [this] at hc
   obtain ⟨u,hu,hr⟩:=bo.rA e c ct hex fJ
   have h1:e*sz τ+c<cs.length:=by
    have:=zP (sz τ) (show e+1<=xs.length from hex)
    rw [Nat.add_mul] at this; omega
   refine ⟨u,by rw [List.getElem?_append_left h1]; exact hu,hr.re (fun g o hg hi=> ?_) (Fl hle _ _ _ _)⟩
   have cL:=vm (k:=a.key) hi
   refine ⟨ny g o hg cL,?_⟩
   have Ch:¬ some g=nb:=fun h=>cL (SG g o hg h)
   have hO:(a.O γ.O nb) g=(γ.O g).bind a.f:=by simp only [Ao.O,if_neg Ch]
   rw [hO]
   have acB:¬ some a.key=a.gv:=fun h=>YN h.symm
   have abX:¬ some a.key=a.sh:=fun h=>TO h.symm
   have fz:γ.O g=some .fz->(γ.O g).bind a.f=some .fz:=fun h=>by rw [h]; rfl
   have no:γ.O g=none->(γ.O g).bind a.f=none:=fun h=>by rw [h]; rfl
   have nn:γ.O g=some (.n a.key e c)->(γ.O g).bind a.f=some (dn a.dL a.key e c):=fun h=>by
    rw [h]; show a.f (.n a.key e c)=_; simp only [Ao.f,if_neg acB,if_neg abX,if_true]
   rcases oz SM with rfl | rfl | rfl
   ·have h2:a.dL=2:=by rcases tp with h | h | h<;>rw [h] at hle ⊢<;>first | rfl | (simp [nO] at hle)
    rw [h2]
    have hi:γ.O g=none\/γ.O g=some .fz:=hi
    show (γ.O g).bind a.f=none\/(γ.O g).bind a.f=some Ow.fz
    rcases hi with hi | hi
    ·rw [no hi]; exact .inl rfl
    ·rw [fz hi]; exact .inr rfl
   ·have hi:γ.O g=some .fz:=hi
    rw [fz hi]
    rcases tp with h | h | h<;>rw [h] at hle ⊢
    ·exact .inr rfl
    ·exact rfl
    ·simp [nO] at hle
   ·have hi:γ.O g=some (.n a.key e c):=hi
    rw [nn hi]
    exact Kw tp
  ·obtain ⟨d,rfl⟩:∃ d,e=xs.length+d:=⟨e-xs.length,by omega⟩
   have hd:d<ys.length:=by simp at he; omega
   have fJ:(cells τ (ys.getD d (cg τ)))[c]? =some ct:=by
    rw [vq] at hc
    have:(xs++ys).getD (xs.length+d) (cg τ)=ys.getD d (cg τ):=by simp [List.getD,List.getElem?_append_right]
    rwa [this] at hc
   obtain ⟨u,hu,hr⟩:=rn d c ct hd fJ
   refine ⟨u,?_,hr⟩
   show (cs++news)[(xs.length+d)*sz τ+c]? =some u
   rw [List.getElem?_append_right (by rw [hl,Nat.add_mul]; omega),hl,← hu]
   congr 1; rw [Nat.add_mul]; omega
def W6 (X:Ctx) (S:St) (γ:Gh) (w:World) (y:Cv) (τ:Ty) (ys:List (El τ)) (cs:List Value) (p:Ap):Prop :=
  ∃ gv sh:Option Nat,(∀ k,k∈p.gone↔some k=gv) /\
   (∀ k,fh p.rs k=if some k=gv then some none else if some k=sh then (S.lk.r k).map (fun row=>some { row with ow:=4 }) else none) /\
   (∀ k,some k=gv->y.row=some k)/\(∀ k,some k=sh->y.row=some k/\∃ row,S.lk.r k=some row/\row.ow=5)/\(∀ k,some k=gv->some k≠sh) /\
   (p.lv=2\/p.lv=4\/p.lv=5) /\
   ∀ (key off dL:Nat) (nb:Option Nat) (w':World),(dL=2\/dL=4\/dL=5)->dL<=p.lv->y.row≠some key ->
    (∀ g o,w.heap[g]? =some o->γ.O g≠some (.r key)->w'.heap[g]? =some o)->(∀ g o,w.heap[g]? =some o->some g=nb->γ.O g=some (.r key)) ->
    ∀ e c ct,e<ys.length->(cells τ (ys.getD e (cg τ)))[c]? =some ct->∃ u,cs[e*sz τ+c]? =some u/\fW X ((⟨key,dL,off,gv,sh⟩:Ao).O γ.O nb) w' (dP key (off+e) c dL) ct u
theorem Sr (hm:Le m S.lk) (hR:Rel X S.lk γ w) {y:Cv} {v:Value} (hy:bp S.lk γ y v) {τ:Ty} {ys:List (El τ)} (h:(m.vw y).ct=some (.l τ ys)) {cs:List Value} {A:Nat->Prop} (hv:vO A w τ ys v cs) :
  W6 X S γ w y τ ys cs (m.iS τ y):=by
 have plain:∀ lv,m.iS τ y=⟨[],[],lv⟩->(lv=2\/lv=4\/lv=5) ->
   (∀ (key off dL:Nat) (nb:Option Nat) (w':World),(dL=2\/dL=4\/dL=5)->dL<=lv->y.row≠some key ->
    (∀ g o,w.heap[g]? =some o->γ.O g≠some (.r key)->w'.heap[g]? =some o)->(∀ g o,w.heap[g]? =some o->some g=nb->γ.O g=some (.r key)) ->
    ∀ e c ct,e<ys.length->(cells τ (ys.getD e (cg τ)))[c]? =some ct->∃ u,cs[e*sz τ+c]? =some u/\fW X ((⟨key,dL,off,none,none⟩:Ao).O γ.O nb) w' (dP key (off+e) c dL) ct u)->W6 X S γ w y τ ys cs (m.iS τ y):=by
  intro lv kX hlv hc
  rw [kX]
  exact ⟨none,none,fun k=>(by simp),fun k=>(by simp [fh]),fun k hk=>(by cases hk),fun k hk=>(by cases hk),fun k hk=>(by cases hk),hlv,hc⟩
 have cell:∀ {key off dL:Nat} {gv sh nb:Option Nat} {w':World} {r e1 e c:Nat} {row:Row} {ct:Ct} {u:Value},(∀ g o,w.heap[g]? =some o->γ.O g≠some (.r key)->w'.heap[g]? =some o) ->
   (∀ g o,w.heap[g]? =some o->some g=nb->γ.O g=some (.r key))->(dL=5->row.ow=5) ->
   (∀ g,In (dP r e1 c row.ow) (γ.O g)->In (dP key (off+e) c dL) ((γ.O g).bind (⟨key,dL,off,gv,sh⟩:Ao).f)) ->
   fW X γ.O w (dP r e1 c row.ow) ct u->fW X ((⟨key,dL,off,gv,sh⟩:Ao).O γ.O nb) w' (dP key (off+e) c dL) ct u:=by
  intro key off dL gv sh nb w' r e1 e c row ct u hh hn h5 hi hc
  refine hc.re (fun g o hg zb=> ?_) (fun gN=> ?_)
  ·have cL:=vm (k:=key) zb
   refine ⟨hh g o hg cL,?_⟩
   have Ch:¬ some g=nb:=fun h=>cL (hn g o hg h)
   show In _ ((⟨key,dL,off,gv,sh⟩:Ao).O γ.O nb g)
   simp only [Ao.O,if_neg Ch]
   exact hi g zb
  ·have h6:dL=5:=by revert gN; simp only [dP]; split<;>simp [Ev.px]
   rw [h5 h6]; rfl
 cases hd:τ.deep with
 | false =>
  refine plain 5 ?_ (by simp) ?_
  ·simp only [Lk.iS,hd]
  ·intro key off dL nb w' _ _ _ _ _ e c ct he hc
   obtain ⟨u,hu,SH⟩:=hv.rA e c ct he hc
   refine ⟨u,hu,?_⟩
   have eE:=List.mem_of_getElem? hc
   cases ct with
   | u=>exact SH
   | l σ zs=>exact absurd rfl (oF hd _ _ eE σ zs)
   | _=>exact SH
 | true =>
  rcases I0 hm hR hy hd h hv with h0 | ⟨r,row,offy,Tp,hr,hτ,YP,Jz⟩
  ·subst h0
   cases Tp:y.row with
   | none =>
    refine plain 5 ?_ (by simp) (fun key off dL nb w' _ _ _ _ _ e c ct he=>by simp at he)
    simp only [Lk.iS,hd,Tp]
   | some r =>
    cases hr:m.r r with
    | none =>
     refine plain 2 ?_ (by simp) (fun key off dL nb w' _ _ _ _ _ e c ct he=>by simp at he)
     simp only [Lk.iS,hd,Tp,hr]
    | some row =>
     have fO:=hm.r r row hr
     by_cases h5:row.ow=5
     ·by_cases Zb:∃ s,y= .sw s
      ·obtain ⟨s,rfl⟩:=Zb
       have hsr:s=r:=by simpa [Cv.row] using Tp
       subst hsr
       have kX:m.iS τ (.sw s)=⟨[s],[(s,none)],5⟩:=by simp only [Lk.iS,hd,Cv.row,hr,h5]
       rw [kX]
       refine ⟨some s,none,fun k=>(by simp),fun k=> ?_,fun k hk=>(by rw [hk]; rfl),fun k hk=>(by cases hk),fun k _=>(by simp),by simp,fun key off dL nb w' _ _ _ _ _ e c ct he=>by simp at he⟩
       simp only [fh]; by_cases hk:s=k
       ·subst hk; simp
       ·simp [hk,Ne.symm hk]
      ·have kX:m.iS τ y=⟨[],[(r,some { row with ow:=4 })],4⟩:=by
        simp only [Lk.iS,hd,Tp,hr,h5]
        cases y<;>first | rfl | exact absurd ⟨_,rfl⟩ Zb
       rw [kX]
       refine ⟨none,some r,fun k=>(by simp),fun k=> ?_,fun k hk=>(by cases hk),fun k hk=> ?_,fun k hk=>(by cases hk),by simp,fun key off dL nb w' _ _ _ _ _ e c ct he=>by simp at he⟩
       ·simp only [fh]; by_cases hk:r=k
        ·subst hk; simp [fO]
        ·simp [hk,Ne.symm hk]
       ·cases hk; exact ⟨Tp,row,fO,h5⟩
     ·have kX:m.iS τ y=⟨[],[],(m.iS τ y).lv⟩/\((m.iS τ y).lv=2\/(m.iS τ y).lv=4\/(m.iS τ y).lv=5):=by
       simp only [Lk.iS,hd,Tp,hr]
       split<;>simp_all
      exact plain _ kX.1 kX.2 (fun key off dL nb w' _ _ _ _ _ e c ct he=>by simp at he)
  ·subst hτ
   have fO:=hm.r r row hr
   by_cases h5:row.ow=5
   ·rcases YP with ⟨rfl,rfl⟩ | ⟨n,rfl⟩
    ·have kX:m.iS row.τ (.sw r)=⟨[r],[(r,none)],5⟩:=by simp only [Lk.iS,hd,Cv.row,hr,h5]
     rw [kX]
     refine ⟨some r,none,fun k=>(by simp),fun k=> ?_,fun k hk=>(by rw [hk]; rfl),fun k hk=>(by cases hk),fun k _=>(by simp),by simp,fun key off dL nb w' tp hle cL hh hn e c ct he hc=> ?_⟩
     ·simp only [fh]; by_cases hk:r=k
      ·subst hk; simp
      ·simp [hk,Ne.symm hk]
     ·obtain ⟨u,hu,KL⟩:=Jz e c ct he hc
      refine ⟨u,hu,cell hh hn (fun _=>h5) (fun g hi=> ?_) KL⟩
      rw [h5] at hi
      have hi:γ.O g=some (.n r (0+e) c):=hi
      rw [hi]
      show In _ ((⟨key,dL,off,some r,none⟩:Ao).f (.n r (0+e) c))
      simp only [Ao.f,if_true,Nat.zero_add]
      exact Kw tp
    ·have kX:m.iS row.τ (.sl r offy n)=⟨[],[(r,some { row with ow:=4 })],4⟩:=by simp only [Lk.iS,hd,Cv.row,hr,h5]
     rw [kX]
     refine ⟨none,some r,fun k=>(by simp),fun k=> ?_,fun k hk=>(by cases hk),fun k hk=> ?_,fun k hk=>(by cases hk),by simp,fun key off dL nb w' tp hle cL hh hn e c ct he hc=> ?_⟩
     ·simp only [fh]; by_cases hk:r=k
      ·subst hk; simp [fO]
      ·simp [hk,Ne.symm hk]
     ·cases hk; exact ⟨rfl,row,fO,h5⟩
     ·obtain ⟨u,hu,KL⟩:=Jz e c ct he hc
      have hle:dL<=4:=hle
      refine ⟨u,hu,cell hh hn (fun h=>by omega) (fun g hi=> ?_) KL⟩
      rw [h5] at hi
      have hi:γ.O g=some (.n r (offy+e) c):=hi
      rw [hi]
      show In _ ((⟨key,dL,off,none,some r⟩:Ao).f (.n r (offy+e) c))
      have:¬ (some r=(none:Option Nat)):=by simp
      simp only [Ao.f,if_neg this,if_true]
      rcases tp with rfl | rfl | rfl
      ·exact .inr rfl
      ·exact rfl
      ·omega
   ·have kX:(m.iS row.τ y=⟨[],[],4⟩/\(row.ow=4\/row.ow=3))\/(m.iS row.τ y=⟨[],[],2⟩/\∀ e c,dP r e c row.ow= .mW):=by
     simp only [Lk.iS,hd,Tp,hr]
     split
     ·contradiction
     ·exact .inl ⟨rfl,.inl (by assumption)⟩
     ·exact .inl ⟨rfl,.inr (by assumption)⟩
     ·refine .inr ⟨rfl,fun e c=> ?_⟩
      simp only [dP]
    rcases kX with ⟨kX,hk⟩ | ⟨kX,hk⟩
    ·refine plain 4 kX (by simp) (fun key off dL nb w' tp hle cL hh hn e c ct he hc=> ?_)
     obtain ⟨u,hu,KL⟩:=Jz e c ct he hc
     refine ⟨u,hu,cell hh hn (fun h=>by omega) (fun g hi=> ?_) KL⟩
     have hi:γ.O g=some .fz:=by rcases hk with hk | hk<;>rw [hk] at hi<;>exact hi
     rw [hi]
     show In _ (some Ow.fz)
     rcases tp with rfl | rfl | rfl
     ·exact .inr rfl
     ·exact rfl
     ·omega
    ·refine plain 2 kX (by simp) (fun key off dL nb w' tp hle cL hh hn e c ct he hc=> ?_)
     obtain ⟨u,hu,KL⟩:=Jz e c ct he hc
     refine ⟨u,hu,cell hh hn (fun h=>by omega) (fun g hi=> ?_) KL⟩
     rw [hk] at hi
     have h2:dL=2:=by omega
     subst h2
     show (γ.O g).bind _=none\/(γ.O g).bind _=some Ow.fz
     rcases hi with hi | hi<;>rw [hi]
     ·exact .inl rfl
     ·exact .inr rfl
theorem Ae {τ τ':Ty} {xs:List (El τ')} {ys:List (El τ)} {zs:List (El τ')} (h:Ai τ τ' xs ys=some zs):∃ e:τ=τ',zs=xs++e▸ys:=by
 cases τ<;>cases τ'<;>first | (simp only [Ai,zA] at h; exact ⟨rfl,h.symm⟩) | (simp [Ai] at h; done)
theorem Ho (hX:iy X) (hR:Rel X S.lk γ w) (cj:∀ g,w.heap.size<=g->γ.O g=none) (hm:Le m S.lk) {t ty:TypeId} {τ:Ty} (ht:X.lE t=some τ) {key:Nat} {y:Cv} {xv yv:Value}
  (hy:bp S.lk γ y yv) {ys:List (El τ)} (dg:(m.vw y).ct=some (.l τ ys)) (cL:y.row≠some key) {xs:List (El τ)} {ow:Nat} {cs:List Value} (bo:cS X γ.O w key ⟨τ,xs,ow⟩ xv cs)
  (SM:eu ow=true) (abT:(xs++ys).length<=Na) (uz:¬ (200000<=key/\key<300000)) :
  ∃ u w' γ',(Builtin.append_ #[t,t] ty #[xv,yv]).run X.P w= .ok u w' /\
   Step X S γ w (RT key ⟨τ,xs++ys,min ow (m.iS τ y).lv⟩ (m.iS τ y).gone (m.iS τ y).rs) γ' w' /\
   bp (S.app (RT key ⟨τ,xs++ys,min ow (m.iS τ y).lv⟩ (m.iS τ y).gone (m.iS τ y).rs)).lk γ' (.sw key) u:=by
 obtain ⟨hu,z9⟩:=nL ht
 obtain ⟨i,z,hi,hz,hs,hb,_,Jq⟩:=sJ hX ht
 obtain ⟨⟨news,mq⟩,_⟩:=Ac hm hR hy dg
 obtain ⟨gv,sh,a1,a2,a3,a4,a5,a6,a7⟩:=Sr hm hR hy dg mq
 obtain ⟨tp,PG,hle⟩:=Eo SM a6
 have adW:xv.ownBlock=none\/True:= .inr trivial
 have YE:dN key ow= .own (.r key):=by simp [dN,SM]
 have qe:w.ownsRow 0 (X.id τ) (sz τ) xv xs.length cs/\∀ g,xv.ownBlock=some g->γ.O g=some (.r key):=by
  have:=bo.top; rw [YE] at this; exact this
 have hlen:(xs++ys).length=xs.length+ys.length:=zK
 have run:∃ v' w',(Builtin.append_ #[t,t] ty #[xv,yv]).run X.P w= .ok v' w'/\w'.ownsRow 0 (X.id τ) (sz τ) v' (xs.length+ys.length) (cs++news)/\w.grownBy w' xv.ownBlock /\
   ∀ g,v'.ownBlock=some g->xv.ownBlock=some g\/w.heap.size<=g:=by
  rcases mq.top.2 with ⟨rfl,h0⟩ | ⟨g,o,cap,cur,e,fz,rfl,hg,_,_,_,_⟩
  ·have hn:news=[]:=by have:=mq.top.1; rw [h0,Nat.zero_mul] at this; exact List.length_eq_zero_iff.1 this
   refine ⟨xv,w,run_append_owned_none (P:=X.P) (w:=w) 0 t ty (X.id τ) i (sz τ) hu hi xv xs.length cs qe.1,?_,⟨rfl,rfl,rfl,Nat.le_refl _,fun _ _ _=>rfl⟩,fun g hg=> .inl hg⟩
   rw [h0,hn,List.append_nil]; exact qe.1
  ·exact IL (P:=X.P) hu hi hz hs rfl Jq (oE τ) qe.1 (a:=⟨g,o,none⟩) mq.top.1 (fun j u hj=>by rw [je]; exact mq.top.cell rfl hj) (Rv mq)
    (by simp only [Na] at abT; simp only [maxLen]; omega)
    (by have:=Nat.mul_le_mul (show xs.length+ys.length<=Na by omega) hb; simp only [Na] at this; omega)
 obtain ⟨v',w',ni,gN,zp,iU⟩:=run
 have YN:gv≠some key:=fun h=>cL (a3 key h.symm)
 have TO:sh≠some key:=fun h=>cL (a4 key h.symm).1
 have ny:∀ g o,w.heap[g]? =some o->γ.O g≠some (.r key)->w'.heap[g]? =some o:=fun g o hg ho =>
  (zp.block g (bV hg) (fun e=>ho (qe.2 g e.symm))).trans hg
 have SG:∀ g o,w.heap[g]? =some o->some g=v'.ownBlock->γ.O g=some (.r key):=fun g o hg h=>by
  rcases iU g h.symm with h1 | h1
  ·exact qe.2 g h1
  ·have:=bV hg; omega
 have Ym:=Vc (a:=⟨key,min ow (m.iS τ y).lv,xs.length,gv,sh⟩) (nb:=v'.ownBlock) (ys:=ys) (w':=w') bo rfl gN tp hle SM YN TO (fun g h=>h.symm) ny
  (fun e c ct he hc=>a7 key xs.length _ v'.ownBlock w' tp (Nat.min_le_right _ _) cL ny SG e c ct he hc) SG
 obtain ⟨h1,h2⟩:=U4 hR cj (a:=⟨key,min ow (m.iS τ y).lv,xs.length,gv,sh⟩) (row':=⟨τ,xs++ys,min ow (m.iS τ y).lv⟩) (v:=xv) (v':=v') (nb:=v'.ownBlock) a1 a2 YN TO a5
  (fun k hk=>(a4 k hk).2) zp qe.2 (fun g h=>by
   refine ⟨(gN.lt g h.symm).2,?_⟩
   rcases iU g h.symm with h1 | h1
   ·exact .inl (qe.2 g h1)
   ·exact .inr h1) Ym PG uz
 exact ⟨v',w',_,ni,h1,h2⟩
theorem ON {a:Option Nat} {b:Nat} (h:V9 a b=true):a≠some b:=by
 rintro rfl
 simp [V9,Nat.beq_refl] at h
theorem FP {r:Nat} (h:yP r=true):¬ (200000<=r/\r<300000):=by
 rintro ⟨h1,h2⟩
 have h3:Nat.ble 200000 r=true:=Nat.ble_eq_true_of_le h1
 have h4:Nat.ble r 299999=true:=Nat.ble_eq_true_of_le (by omega)
 simp [yP,h3,h4] at h
theorem OI (hX:iy X) (hR:Rel X S.lk γ w) (cj:∀ g,w.heap.size<=g->γ.O g=none) (hm:Le m S.lk) {t ty:TypeId} {τ:Ty} (ht:X.lE t=some τ) {d:Nat} (hd:d<1500) {x y:Cv} {xv yv:Value}
  (hx:bp S.lk γ x xv) (hy:bp S.lk γ y yv) {v:AV} {δ:Dl} (h:m.append τ d x y= .w true v δ) :
  ∃ u w' γ',(Builtin.append_ #[t,t] ty #[xv,yv]).run X.P w= .ok u w'/\Step X S γ w δ γ' w'/\bn (S.app δ).lk γ' v u:=by
 simp only [Lk.append] at h
 cases dg:(m.vw y).ct with
 | none=>simp [dg] at h
 | some ct =>
  cases ct with
  | l σ ys =>
   simp only [dg] at h
   cases XK:LU σ τ with
   | false=>simp [XK] at h
   | true =>
    have:=Al XK; subst this
    cases x with
    | nl ρ' =>
     simp only [XK] at h
     cases cL:V9 y.row (d*64) with
     | false=>simp [cL] at h
     | true =>
      simp only [cL,Out.w.injEq] at h
      obtain ⟨hb,rfl,rfl⟩:=h
      have hx:xv= .slice none 0 0:=hx
      subst hx
      have bo:cS X γ.O w (d*64) ⟨σ,[],5⟩ (.slice none 0 0) []:=⟨⟨World.ownsRow_nil w 0 _ _,by simp [Value.ownBlock]⟩,fun e c ct he=>by simp at he⟩
      obtain ⟨u,w',γ',h1,h2,h3⟩:=Ho hX hR cj hm (ty:=ty) ht hy dg (ON cL) bo rfl (by simpa using zQ hb) (by omega)
      have hlv:min 5 (m.iS σ y).lv=(m.iS σ y).lv:=by
       have:(m.iS σ y).lv<=5:=by
        simp only [Lk.iS]
        repeat' split
        all_goals simp
       omega
      rw [hlv] at h2 h3
      exact ⟨u,w',γ',h1,h2,bn.of h3⟩
    | sw r =>
     simp only [XK] at h
     cases MG:V9 y.row r&&yP r with
     | false=>simp [MG] at h
     | true =>
      have Ud:=MG
      simp only [zB] at Ud
      obtain ⟨cL,Cq⟩:=Ud
      cases hr:m.r r with
      | none=>simp [MG,hr] at h
      | some row =>
       obtain ⟨τ',xs,ow⟩:=row
       cases ho:eu ow with
       | false=>simp [MG,hr,ho] at h
       | true =>
        cases hz:Ai σ τ' xs ys with
        | none=>simp [MG,hr,ho,hz] at h
        | some zs =>
         simp only [MG,hr,ho,hz,Out.w.injEq] at h
         obtain ⟨hb,rfl,rfl⟩:=h
         obtain ⟨e,rfl⟩:=Ae hz
         subst e
         obtain ⟨_,rfl⟩:=hx
         obtain ⟨u,w',γ',h1,h2,h3⟩:=Ho hX hR cj hm (ty:=ty) ht hy dg (ON cL) (hR.rs r _ (hm.r r _ hr)) ho (zQ hb) (FP Cq)
         exact ⟨u,w',γ',h1,h2,bn.of h3⟩
    | _=>simp [XK] at h
  | _=>simp [dg] at h
theorem QR {τ:Ty} (h:QU τ=true):sz τ=1:=by cases τ<;>first | rfl | cases h
theorem LS {τ:Ty} (h:QU τ=true) (y:El τ):∃ ct,cells τ y=[ct]/\∀ A w u,B2 A w ct u->u=gx ct/\u.oneCell'=true/\∀ X O w c,fW X O w c ct u:=by
 cases τ<;>first | exact ⟨_,rfl,fun _ _ _ h=>by subst h; exact ⟨rfl,rfl,fun _ _ _ _=>rfl⟩⟩ | cases h
theorem Ou {τ:Ty} (xs ys:List (El τ)) {off n:Nat} (h:off+n<=xs.length) (hn:n<=ys.length) (e:Nat) :
  (xs.take off++ys.take n++xs.drop (off+n)).getD e (cg τ)=if off<=e/\e<off+n then ys.getD (e-off) (cg τ) else xs.getD e (cg τ):=by
 simp only [List.append_assoc,List.getD,List.getElem?_append,List.length_take,List.getElem?_take,List.getElem?_drop]
 have h1:min off xs.length=off:=by omega
 have h4:min n ys.length=n:=by omega
 rw [h1,h4]
 by_cases h2:e<off
 ·simp [h2,show ¬ (off<=e/\e<off+n) by omega]
 ·by_cases h3:e<off+n
  ·simp [h2,show e-off<n by omega,show off<=e/\e<off+n by omega]
  ·simp [h2,show ¬ e-off<n by omega,show ¬ (off<=e/\e<off+n) by omega,show off+n+(e-off-n)=e by omega]
theorem Q8 (hm:Le m S.lk) (hR:Rel X S.lk γ w) {a:Cv} {xv:Value} (hx:bp S.lk γ a xv) {r off len:Nat} {row:Row} (h:m.dst a=some (r,row,off,len)) (ho:eu row.ow=true) :
  S.lk.r r=some row/\off+len<=row.xs.length/\((xv= .slice none 0 0/\len=0) \/
   ∃ g n cap o' cap',γ.rv r= .slice (some ⟨g,0,none⟩) n cap/\xv= .slice (some ⟨g,o',none⟩) len cap'/\(len=0\/o'=off*sz row.τ)):=by
 cases a<;>simp only [Lk.dst] at h<;>try (cases h; done)
 ·rename_i k
  cases hk:m.r k with
  | none=>simp [hk] at h
  | some rw' =>
   simp only [hk,zA,zG] at h
   obtain ⟨rfl,rfl,rfl,rfl⟩:=h
   have fO:=hm.r _ _ hk
   refine ⟨fO,by omega,?_⟩
   have Cw:=(hR.rs _ _ fO).top
   rw [show dN k rw'.ow= .own (.r k) by simp [dN,ho]] at Cw
   rw [hx.2]
   rcases Cw.1.2 with ⟨h3,h4⟩ | ⟨g1,cap1,cur,h3,_⟩
   ·exact .inl ⟨h3,h4⟩
   ·exact .inr ⟨g1,_,_,0,_,h3,h3,.inr (by simp)⟩
 ·rename_i k o l
  cases hk:m.r k with
  | none=>simp [hk] at h
  | some rw' =>
   simp only [hk,zA,zG] at h
   obtain ⟨rfl,rfl,rfl,rfl⟩:=h
   have fO:=hm.r _ _ hk
   obtain ⟨row',cy,hle,rU⟩:=hx
   rw [fO] at cy; cases cy
   refine ⟨fO,hle,?_⟩
   have Cw:=(hR.rs _ _ fO).top
   rw [show dN k rw'.ow= .own (.r k) by simp [dN,ho]] at Cw
   rcases rU with ⟨_,rfl,h0⟩ | ⟨g,o1,n',cap,o',cap',JE,rfl,_,_,_,h0⟩
   ·exact .inl ⟨rfl,h0⟩
   ·rcases Cw.1.2 with ⟨h3,h4⟩ | ⟨g1,cap1,cur,h3,_⟩
    ·rw [h3] at JE; cases JE
    ·rw [h3] at JE; injection JE with h5 h6 h7; injection h5 with h5; injection h5 with h5 h8 _
     subst h5; subst h8
     refine .inr ⟨_,_,_,_,_,h3,rfl,?_⟩
     rcases h0 with h0 | h0
     ·exact .inl h0
     ·exact .inr (by rw [h0,Nat.zero_add])
theorem Mg {τ:Ty} {xs ys zs:List (El τ)} (h:Ai τ τ xs ys=some zs):zs=xs++ys:=by
 cases τ<;>(simp only [Ai,zA] at h; exact h.symm)
theorem LD (hX:iy X) (hR:Rel X S.lk γ w) (cj:∀ g,w.heap.size<=g->γ.O g=none) (hm:Le m S.lk) {t u ty:TypeId} {a b:Cv} {xv yv:Value} {v:AV} (hx:bp S.lk γ a xv) (hy:bp S.lk γ b yv)
  (h:X.uG m t (.c a) (.c b)= .w0 v δ) :
  ∃ (n:Nat) (w':World) (γ':Gh),v= .c (.i .i64 n)/\(Builtin.copy_ #[t,u] ty #[xv,yv]).run X.P w= .ok (goInt n) w'/\Step X S γ w δ γ' w':=by
 simp only [Ctx.uG] at h
 cases ht:X.lE t with
 | none=>simp [ht] at h
 | some τ =>
  cases hd:m.dst a with
  | none=>simp [ht,hd] at h
  | some q =>
   obtain ⟨r,row,off,len⟩:=q
   cases hc:(m.vw b).ct with
   | none=>simp [ht,hd,hc] at h
   | some ct =>
    cases ct with
    | l σ ys =>
     simp only [ht,hd,hc] at h
     cases h1:eu row.ow&&(LU row.τ τ&&QU τ) with
     | false=>simp [h1] at h
     | true =>
      cases hz:Ai σ row.τ (row.xs.take off) (ys.take (min ys.length len)) with
      | none=>simp [h1,hz] at h
      | some zs =>
       simp only [h1,hz,Out.w0.injEq] at h
       obtain ⟨rfl,rfl⟩:=h
       obtain ⟨τr,xs,ow⟩:=row
       simp only [zB] at h1
       obtain ⟨ho,hτ,h1⟩:=h1
       have hτ:τr=τ:=Al hτ
       subst hτ
       have e:σ=τr:=by
        obtain ⟨e,_⟩:=Ae hz
        exact e
       subst e
       have acU:zs=xs.take off++ys.take (min ys.length len):=Mg hz
       subst acU
       obtain ⟨fO,hle,hxv⟩:=Q8 hm hR hx hd ho
       obtain ⟨hu,z9⟩:=nL ht
       obtain ⟨i,z,hi,Y7,hs,hb,Wk,Jq⟩:=sJ hX ht
       have gY:=QR h1
       have mn:(X.P.info? (X.id σ)).map (·.size)=some 1:=by rw [hi,Option.map_some,hs,gY]
       obtain ⟨⟨csy,mq⟩,_⟩:=Ac hm hR hy hc
       have bo:=hR.rs r _ fO
       have Ci:dN r ow= .own (.r r):=by simp [dN,ho]
       have hle:off+len<=xs.length:=hle
       let n:=min ys.length len
       have uU:n<=ys.length:=Nat.min_le_left _ _
       have HT:n<=len:=Nat.min_le_right _ _
       have Qp:(xs.take off++ys.take n++xs.drop (off+n)).length=xs.length:=by simp; omega
       show ∃ (n':Nat) (w':World) (γ':Gh),AV.c (.i .i64 (n:Nat))= .c (.i .i64 n')/\_/\Step X S γ w (S9 r ⟨σ,xs.take off++ys.take n++xs.drop (off+n),ow⟩) γ' w'
       have same:∀ (cv':List Value) (O':OM) (w':World),JU (·=r) γ w { γ with O:=O',cv:=dZ γ.cv r cv' } w'->cS X O' w' r ⟨σ,xs.take off++ys.take n++xs.drop (off+n),ow⟩ (γ.rv r) cv' ->
         Step X S γ w (S9 r ⟨σ,xs.take off++ys.take n++xs.drop (off+n),ow⟩) { γ with O:=O',cv:=dZ γ.cv r cv' } w':=fun cv' O' w' tq rn =>
        wU (row':=⟨σ,xs.take off++ys.take n++xs.drop (off+n),ow⟩) hR fO rfl (by show xs.length<=(xs.take off++ys.take n++xs.drop (off+n)).length; omega) (tZ ho) tq rn
       have hyv:(yv= .slice none 0 0/\ys.length=0)\/∃ g2 o2 cap2 cur2 e2 fz2,yv= .slice (some ⟨g2,o2,none⟩) ys.length cap2/\w.heap[g2]? =some (.cells cur2 e2 fz2)/\o2+ys.length*sz σ<=cur2.size/\(cur2.toList.drop o2).take (ys.length*sz σ)=csy:=by
        rcases mq.top.2 with h | ⟨g,o,c,cu,e',f,h2,h3,_,_,h4,h5⟩
        ·exact .inl h
        ·exact .inr ⟨g,o,c,cu,e',f,h2,h3,h4,h5⟩
       by_cases Tl:n=0
       ·have rn:xs.take off++ys.take n++xs.drop (off+n)=xs:=by rw [Tl]; simp
        refine ⟨n,w,_,rfl,?_,same (γ.cv r) γ.O w ⟨rfl,rfl,rfl,Nat.le_refl _,fun _ _ _=>⟨rfl,rfl⟩,cj,rfl,fun j hj=>by simp [dZ,hj]⟩ (by rw [rn]; simpa [dZ] using bo)⟩
        rw [Tl]
        rcases hxv with ⟨rfl,_⟩ | ⟨g,n',cap,o',cap',_,rfl,_⟩<;>rcases hyv with ⟨rfl,_⟩ | ⟨g2,o2,cap2,cur2,e2,fz2,rfl,_⟩ <;>
         exact run_copy_none (P:=X.P) w t u ty (X.id σ) _ _ _ _ _ _ hu mn (by first | exact Nat.zero_min _ | exact Nat.min_zero _ | exact Tl)
       ·rcases hxv with ⟨_,h0⟩ | ⟨g,n',cap,o',cap',vP,rfl,h0⟩
        ·exact absurd (show n=0 by omega) Tl
        rcases hyv with ⟨_,h00⟩ | ⟨g2,o2,cap2,cur2,e2,fz2,rfl,YO,SK,Wn⟩
        ·exact absurd (show n=0 by omega) Tl
        have MW:o'=off:=by
         rcases h0 with h0 | h0
         ·omega
         ·rw [h0]; show off*sz σ=off; rw [gY,Nat.mul_one]
        subst MW
        have Cw:=bo.top
        rw [show dN r (Row.ow ⟨σ,xs,ow⟩)= .own (.r r) from Ci] at Cw
        obtain ⟨gN,oN⟩:=Cw
        rcases gN.2 with ⟨h3,_⟩ | ⟨g1,cap1,cur,h3,_,hg,HX,QF,iW,SJ⟩
        ·rw [h3] at vP; cases vP
        have MT:g1=g:=by
         rw [h3] at vP; injection vP with h _ _; injection h with h; injection h with h2 h3 _
        subst MT
        have QP:xs.length<=cur.size:=by
         have:xs.length<=cap1:=HX
         rw [iW,show sz σ=1 from gY]; omega
        have adL:csy.length=ys.length:=by have:=mq.top.1; rwa [gY,Nat.mul_one] at this
        have yx:(csy.take n).length=n:=by rw [List.length_take]; omega
        have Jz:∀ j,j<ys.length->∃ ct u,cells σ (ys.getD j (cg σ))=[ct]/\csy[j]? =some u/\u=gx ct/\u.oneCell'=true/\∀ X O w c,fW X O w c ct u:=by
         intro j hj
         obtain ⟨ct,dg,C1⟩:=LS h1 (ys.getD j (cg σ))
         obtain ⟨u,oT,hv⟩:=mq.rA j 0 ct hj (by rw [dg]; rfl)
         rw [gY,Nat.mul_one,Nat.add_zero] at oT
         obtain ⟨q1,q2,q3⟩:=C1 _ _ _ hv
         exact ⟨ct,u,dg,oT,q1,q2,q3⟩
        have ni:=run_copy_row (P:=X.P) w t u ty (X.id σ) g1 o' len cap' ⟨g2,o2,none⟩ ys.length cap2 cur _ (csy.take n) hu mn hg yx
         (fun j v hj=>by
          have KM:j<n:=by have:=(zU.1 hj).1; rwa [yx] at this
          rw [List.getElem?_take,if_pos KM,← Wn,List.getElem?_take,if_pos (by rw [gY]; omega),List.getElem?_drop] at hj
          have:(Addr.add ⟨g2,o2,none⟩ j)=⟨g2,o2+j,none⟩:=by unfold Addr.add; split<;>simp_all
          rw [this]
          simp only [World.cell?,YO]
          simpa using hj)
         (by rw [yx]; omega)
         (fun v hv=>by
          obtain ⟨j,hj⟩:=List.mem_iff_getElem?.1 hv
          have KM:j<n:=by have:=(zU.1 hj).1; rwa [yx] at this
          rw [List.getElem?_take,if_pos KM] at hj
          obtain ⟨ct,u,_,q,_,q2,_⟩:=Jz j (by omega)
          rw [hj] at q; cases q; exact q2)
        have PO:γ.O g1=some (.r r):=oN g1 (by rw [h3]; rfl)
        have mV:(γ.cv r).length=xs.length:=by have:=gN.1; rwa [gY,Nat.mul_one] at this
        rw [yx] at ni
        refine ⟨n,_,_,rfl,ni,same (Soft.cT (γ.cv r) o' (csy.take n)) γ.O _ ?_ ?_⟩
        ·exact ⟨rfl,rfl,rfl,by simp,fun g rY cL=>⟨l8 w _ _ g (fun h=>by have:=(cL r rfl).1; rw [h,PO] at this; exact this rfl),rfl⟩,
          fun g rY=>cj g (by simpa using rY),rfl,fun j hj=>by simp [dZ,hj]⟩
        ·have XI:cur.toList.take o'++csy.take n++cur.toList.drop (o'+n)=Soft.cT cur.toList o' (csy.take n):=by simp only [Soft.cT,yx]
         refine ⟨?_,fun e c ct he dg=> ?_⟩
         ·show Sl X γ.O _ (dN r ow) σ _ (xs.take o'++ys.take n++xs.drop (o'+n)).length _
          rw [Qp,Ci,XI]
          refine ⟨⟨by rw [g9 _ _ _ (by rw [mV,yx]; omega),mV,gY,Nat.mul_one],.inr ⟨g1,cap1,_,h3,Nat.zero_le _,sA w _ _ _ _ _ hg,HX,QF,?_,?_⟩⟩,oN⟩
          ·rw [List.size_toArray,g9 _ _ _ (by rw [yx,Array.length_toList]; omega),Array.length_toList,iW]
          ·rw [List.toList_toArray,tJ _ _ _ _ (by rw [yx]; show o'+n<=xs.length*sz σ; rw [gY]; omega) (by show xs.length*sz σ<=cur.toList.length; rw [gY,Nat.mul_one]; simpa using QP),SJ]
         ·have SA:e<xs.length:=by
           have:e<(xs.take o'++ys.take n++xs.drop (o'+n)).length:=he
           rwa [Qp] at this
          have tt:(cells σ ((xs.take o'++ys.take n++xs.drop (o'+n)).getD e (cg σ)))[c]? =some ct:=dg
          have nv:c=0:=by have:=(zU.1 tt).1; rw [bc,gY] at this; omega
          subst nv
          rw [Ou _ _ (by omega) uU] at tt
          show ∃ u,(Soft.cT (γ.cv r) o' (csy.take n))[e*sz σ+0]? =some u/\fW X γ.O _ (dP r e 0 ow) ct u
          rw [gY,Nat.mul_one,Nat.add_zero]
          by_cases zb:o'<=e/\e<o'+n
          ·rw [if_pos zb] at tt
           obtain ⟨j,rfl⟩:∃ j,e=o'+j:=⟨e-o',by omega⟩
           have hj:j<n:=by omega
           rw [Nat.add_sub_cancel_left] at tt
           obtain ⟨ct',u,q1,q2,q3,_,q4⟩:=Jz j (by omega)
           rw [q1] at tt
           simp only [List.getElem?_cons_zero,zA] at tt
           subst tt
           exact ⟨u,by rw [dI _ _ _ _ (by rw [yx]; exact hj) (by rw [yx,mV]; omega),List.getElem?_take,if_pos hj,q2],q4 _ _ _ _⟩
          ·rw [if_neg zb] at tt
           obtain ⟨u,oT,eD⟩:=bo.rA e 0 ct SA tt
           have oT:(γ.cv r)[e*sz σ+0]? =some u:=oT
           rw [gY,Nat.mul_one,Nat.add_zero] at oT
           refine ⟨u,?_,eD.re (fun g o rY rT=>⟨(l8 w _ _ g (fun h=>vm rT (h▸PO))).trans rY,rT⟩) id⟩
           rcases Nat.lt_or_ge e o' with h | h
           ·rw [cU _ _ _ _ h (by rw [mV]; omega)]; exact oT
           ·rw [cY _ _ _ _ (by rw [yx]; omega) (by rw [yx,mV]; omega)]; exact oT
    | _=>simp [ht,hd,hc] at h
def AS (X:Ctx) (S:St) (γ:Gh) (w:World) (ρ:Operand->Value) (o:Oper) (v:AV) (δ:Dl):Prop :=
 ∃ r u w' γ',(Go.execOp ρ o).run X.P w= .ok r w'/\(r= .value u\/(r= .skip/\u=undef))/\bn (S.app δ).lk γ' v u/\Step X S γ w δ γ' w'
theorem AS.of {o:Oper} {v:AV} {s:Sem Value} (he:Go.execOp ρ o=(do let x←s; pure (.value x)))
  (h:∃ u w' γ',s.run X.P w= .ok u w'/\Step X S γ w δ γ' w'/\bn (S.app δ).lk γ' v u):AS X S γ w ρ o v δ:=by
 obtain ⟨u,w',γ',h1,h2,h3⟩:=h
 exact ⟨.value u,u,w',γ',by rw [he,Sem.run_bind,h1]; rfl,.inl rfl,h3,h2⟩
theorem AS.ofU {o:Oper} {s:Sem Unit} (he:Go.execOp ρ o=(do s; pure .skip))
  (h:∃ w' γ',s.run X.P w= .ok () w'/\Step X S γ w δ γ' w'):AS X S γ w ρ o u8 δ:=by
 obtain ⟨w',γ',h1,h2⟩:=h
 exact ⟨.skip,undef,w',γ',by rw [he,Sem.run_bind,h1]; rfl,.inr ⟨rfl,rfl⟩,⟨[],rfl,.nil⟩,h2⟩
theorem Bx {P:Program} (t:TypeId) (v:Value) (w:World):(newVar t v).run P w= .ok ⟨w.heap.size,0,none⟩ (w.alloc (.cells v.cells t)):=by
 rfl
theorem Pv {P:Program} {t:TypeId} {i:TypeInfo} {z:Value} (hi:P.info? t=some i) (hz:i.zero=some z) (w:World):(zeroValue t).run P w= .ok z w:=by
 simp [zeroValue,typeInfo,hi,hz]
theorem H3 (hR:Rel X S.lk γ w) (cj:∀ g,w.heap.size<=g->γ.O g=none) {t:TypeId} {cs:List Cv} (h:X.zero t=some cs) (key:Nat) (uz:1000<=key) :
  ∃ u w' γ',(Instr.alloc t true (.tuple #[])).run X.P w= .ok u w'/\Step X S γ w (FO key cs) γ' w'/\bn (S.app (FO key cs)).lk γ' (.c (.pv key 0)) u:=by
 obtain ⟨i,z,hi,hz,hr⟩:=JO (M:=(S.app (FO key cs)).lk) (γ:=Gx γ w key) h
 obtain ⟨h1,h2⟩:=J3 key cs uz hR cj z.cells.toList t hr
 refine ⟨_,_,_,?_,h1,bn.of h2⟩
 simp only [Instr.alloc,Sem.run_bind,Pv hi hz,Result.andThen_ok,Bx,Sem.run_pure]
theorem Ny (hR:Rel X S.lk γ w) (cj:∀ g,w.heap.size<=g->γ.O g=none) {t:TypeId} {cs:List Cv} {v:Value} (hv:b9 S.lk γ cs v.cells.toList) (key:Nat) (uz:1000<=key) :
  let cs':=rP (Dl.map { Dl.z with kv:=[key] }) cs
  ∃ u w' γ',(Instr.box t v).run X.P w= .ok u w'/\Step X S γ w (FO key cs') γ' w'/\bn (S.app (FO key cs')).lk γ' (.c (.pv key 0)) u:=by
 intro cs'
 have HC:(FO key cs').map=(Dl.map { Dl.z with kv:=[key] }):=by
  funext x; cases x<;>rfl
 have hr:=hv.map (EP (key:=key) (cs:=cs') hR)
 rw [HC,← xe] at hr
 obtain ⟨h1,h2⟩:=J3 key cs' uz hR cj v.cells.toList t hr
 refine ⟨_,_,_,?_,h1,bn.of h2⟩
 simp only [Instr.box,Sem.run_bind,Bx,Result.andThen_ok,Sem.run_pure]
theorem IB (hR:Rel X S.lk γ w) (cj:∀ g,w.heap.size<=g->γ.O g=none) (hm:Le m S.lk) {x:Cv} {vl:List Cv} {av v:Value} {t:TypeId} (hx:bp S.lk γ x av)
  (hv:b9 S.lk γ vl v.cells.toList) (hs:vl.length=fV X.P t) (hp:0<vl.length) {u:AV} (h:m.store x vl= .w0 u δ\/m.store x vl= .w true u δ) :
  u=u8/\∃ w' γ',(Instr.storeAt t av v).run X.P w= .ok () w'/\Step X S γ w δ γ' w':=by
 cases x with
 | pv k c =>
  simp only [Lk.store] at h
  cases hk:m.v k with
  | none=>simp [hk] at h
  | some rX =>
   simp only [hk] at h
   cases hb:Nat.ble (c+vl.length) rX.length with
   | false=>simp [hb] at h
   | true =>
    simp only [hb,Out.w0.injEq,reduceCtorEq,or_false] at h
    obtain ⟨rfl,rfl⟩:=h
    obtain ⟨w',h1,h2⟩:=RP k c rX vl hR cj hx (hm.v k rX hk) (zQ hb) hv hs hp
    exact ⟨rfl,w',γ,h1,h2⟩
 | pe r e c =>
  simp only [Lk.store] at h
  cases hr:m.r r with
  | none=>simp [hr] at h
  | some row =>
   simp only [hr] at h
   cases ho:eu row.ow with
   | false=>simp [ho] at h
   | true =>
    cases ha:m.bS e c vl with
    | none=>simp [ho,ha] at h
    | some a =>
     cases hb:Nat.ble (c+vl.length) (sz row.τ) with
     | false=>simp [ho,ha,hb] at h
     | true =>
      cases hy:rO row.τ (cT (row.cs e) c a.iD) with
      | none=>simp [ho,ha,hb,hy] at h
      | some y =>
       simp only [ho,ha,hb,hy] at h
       have hb:=zQ hb
       cases hf:jy vl with
       | true =>
        simp only [hf,Out.w.injEq,reduceCtorEq,false_or] at h
        obtain ⟨h0,rfl,rfl⟩:=h
        obtain ⟨w',γ',h1,h2⟩:=RY hR cj hm hr ho hf ha hb hy h0 hv hx hs hp
        exact ⟨rfl,w',γ',h1,h2⟩
       | false =>
        simp only [hf] at h
        cases hn:fB (r::(keys a.mv++keys a.sh)) with
        | false=>simp [hn] at h
        | true =>
         simp only [hn,Out.w.injEq,reduceCtorEq,false_or] at h
         obtain ⟨h0,rfl,rfl⟩:=h
         obtain ⟨w',γ',h1,h2⟩:=RA hR cj hm hr ho ha hb hy h0 (gH.1 hn) hv hx hs hp
         exact ⟨rfl,w',γ',h1,h2⟩
 | pn r e c k d =>
  simp only [Lk.store] at h
  cases hr:m.r r with
  | none=>simp [hr] at h
  | some row =>
   simp only [hr] at h
   cases ho:Nat.beq row.ow 5 with
   | false=>simp [ho] at h
   | true =>
    cases hf:jy vl with
    | false=>simp [ho,hf] at h
    | true =>
     cases hc:m.iD vl with
     | none=>simp [ho,hf,hc] at h
     | some iD =>
      simp only [ho,hf,hc,ij] at h
      cases hn:(row.cs e)[c]? with
      | none=>simp [hn] at h
      | some ct =>
       cases ct with
       | l τ ys =>
        simp only [hn] at h
        cases hb:Nat.ble (d+vl.length) (sz τ) with
        | false=>simp [hb] at h
        | true =>
         cases hy:rO τ (cT (cells τ (ys.getD k (cg τ))) d iD) with
         | none=>simp only [hb,hy,reduceCtorEq,or_self] at h
         | some y =>
          cases hz:rO row.τ (cT (row.cs e) c [.l τ (ys.set k y)]) with
          | none=>simp only [hb,hy,hz,reduceCtorEq,or_self] at h
          | some z =>
           simp only [hb,hy,hz,Out.w.injEq,reduceCtorEq,false_or] at h
           obtain ⟨h0,rfl,rfl⟩:=h
           obtain ⟨w',h1,h2⟩:=R3 hR cj hm hr (aF ho) hf hc hn (zQ hb) hy hz h0 hv hx hs hp
           exact ⟨rfl,w',γ,h1,h2⟩
       | _=>simp [hn] at h
 | _=>simp [Lk.store] at h
theorem Ul (hX:iy X) (hR:Rel X S.lk γ w) (cj:∀ g,w.heap.size<=g->γ.O g=none) (hm:Le m S.lk) {evp:List (Nat×Bool)->TypeId->Operand->AV} (q9:∀ ty x,bn S.lk γ (evp [] ty x) (ρ x))
  {d:Nat} (hd:d<1500) {o:Oper} {v:AV} (h:bY X evp m d o.type o.op= .w0 v δ\/bY X evp m d o.type o.op= .w true v δ):AS X S γ w ρ o v δ:=by
 obtain ⟨dst,op,type,pos,aft,guard⟩:=o
 simp only at h
 cases op with
 | alloc t =>
  simp only [bY] at h
  cases hz:X.zero t with
  | none=>simp [hz] at h
  | some cs =>
   simp only [hz,Out.w0.injEq,reduceCtorEq,or_false] at h
   obtain ⟨rfl,rfl⟩:=h
   exact AS.of rfl (H3 hR cj hz _ (by omega))
 | box t x =>
  simp only [bY] at h
  cases hc:(evp [] t x).cells with
  | none=>simp [hc] at h
  | some cs =>
   cases hb:Nat.beq cs.length (fV X.P t) with
   | false=>simp [hc,hb] at h
   | true =>
    simp only [hc,hb,Out.w0.injEq,reduceCtorEq,or_false] at h
    obtain ⟨rfl,rfl⟩:=h
    exact AS.of rfl (Ny hR cj (pR hR (q9 t x) hc) _ (by omega))
 | buildSlice t n parts =>
  simp only [bY] at h
  cases ht:X.lE t with
  | none=>simp [ht] at h
  | some τ =>
   simp only [ht] at h
   cases h1:Nat.beq parts.size n&&Nat.ble (n*sz τ) 16777216 with
   | false=>simp [h1] at h
   | true =>
    cases hp:partsOf (evp [] type) (sz τ) 0 parts.toList with
    | none=>simp [h1,hp] at h
    | some pss =>
     simp only [h1,hp] at h
     cases hb:m.jZ τ 0 pss with
     | none=>simp [hb] at h
     | some b =>
      simp only [hb] at h
      cases hn:fB (d*64::(keys b.mv++keys b.sh)) with
      | false=>simp [hn] at h
      | true =>
       simp only [hn] at h
       simp only [zB] at h1
       obtain ⟨h1,h2⟩:=h1
       have h2:=zQ h2
       cases MS:τ.isByte with
       | true =>
        simp only [MS,Out.w.injEq,reduceCtorEq,false_or] at h
        obtain ⟨h0,rfl,rfl⟩:=h
        obtain ⟨v,w',γ',g1,g2,g3⟩:=Hf hX hR cj hm ht (q9 type) (aF h1) h2 hp hb (gH.1 hn) (fun _=>h0) (by omega)
        exact AS.of rfl ⟨v,w',γ',g1,g2,bn.of g3⟩
       | false =>
        simp only [MS,Out.w0.injEq,reduceCtorEq,or_false] at h
        obtain ⟨rfl,rfl⟩:=h
        obtain ⟨v,w',γ',g1,g2,g3⟩:=Hf hX hR cj hm ht (q9 type) (aF h1) h2 hp hb (gH.1 hn) (fun e=>by rw [MS] at e; cases e) (by omega)
        exact AS.of rfl ⟨v,w',γ',g1,g2,bn.of g3⟩
 | store t x y =>
  simp only [bY] at h
  have hr:=q9 type x
  cases hx:evp [] type x with
  | c a =>
   cases hc:(evp [] t y).cells with
   | none=>simp [hx,hc] at h
   | some cs =>
    simp only [hx,hc] at h
    cases hb:Nat.beq cs.length (fV X.P t)&&Nat.ble 1 cs.length with
    | false=>simp [hb] at h
    | true =>
     simp only [hb] at h
     simp only [zB] at hb
     rw [hx] at hr
     have FJ:a≠ .un:=by rintro rfl; simp [Lk.store] at h
     obtain ⟨rfl,w',γ',h1,h2⟩:=IB hR cj hm (bn.to hr FJ) (pR hR (q9 t y) hc) (aF hb.1) (zQ hb.2) h
     exact AS.ofU rfl ⟨w',γ',h1,h2⟩
  | _=>simp [hx] at h
 | makeSlice t n c =>
  simp only [bY] at h
  cases ht:X.lE t with
  | none=>simp [ht] at h
  | some τ =>
   cases hn:(evp [] type n).int with
   | none=>simp [ht,hn] at h
   | some a =>
    cases hc:(evp [] type c).int with
    | none=>simp [ht,hn,hc] at h
    | some b =>
     simp only [ht,hn,hc,Out.w.injEq,reduceCtorEq,false_or,zB,beq_iff_eq,zD] at h
     obtain ⟨⟨rfl,h0,h1⟩,rfl,rfl⟩:=h
     obtain ⟨k,hk⟩:=wz (q9 type n) hn
     obtain ⟨k',uy⟩:=wz (q9 type c) hc
     have h1:=zQ h1
     obtain ⟨v,w',γ',g1,g2,g3⟩:=LX hX hR cj ht (k:=k) (k':=k') h1 (d*64) (by omega)
     rw [show ((a.toNat:Nat):Int)=a by omega] at g1
     exact AS.of rfl ⟨v,w',γ',by rw [hk,uy]; exact g1,g2,bn.of g3⟩
 | call c =>
  obtain ⟨callee,args,argTypes⟩:=c
  cases callee with
  | builtin b =>
   simp only [bY] at h
   revert h; split
   ·intro h; exfalso; revert h; simp only [Ctx.H2,NY]
    repeat' split
    all_goals simp
   ·rename_i x y t u ha ht
    intro h
    have FI:args= #[x,y]:=Array.toList_inj.1 ha
    have JA:argTypes= #[t,u]:=Array.toList_inj.1 ht
    subst FI; subst JA
    simp only [Ctx.Va] at h
    revert h; split
    ·rename_i τ a b he hb hxa VY
     intro h
     have h:m.append τ d a b= .w true v δ:=by
      rcases h with h | h
      ·exfalso; revert h; simp only [Lk.append]; repeat' split
       all_goals simp
      ·exact h
     have:=aF hb; subst this
     have hx:=q9 t x; rw [hxa] at hx
     have hy:=q9 t y; rw [VY] at hy
     have hau:a≠ .un:=by
      rintro rfl; revert h; simp only [Lk.append]; repeat' split
      all_goals simp_all
     have hbu:b≠ .un:=by
      rintro rfl; revert h; simp only [Lk.append]; simp [Lk.vw,Vw.ct]
     obtain ⟨r,w',γ',g1,g2,g3⟩:=OI (ty:=type) hX hR cj hm he hd (bn.to hx hau) (bn.to hy hbu) h
     refine ⟨.value r,r,w',γ',?_,.inl rfl,g3,g2⟩
     simp only [Go.execOp,resolve,invoke,Sem.run_bind,Sem.run_pure,Result.andThen_ok,builtin,List.map_toArray,List.map,g1]
    ·simp
   ·rename_i x t ha ht
    intro h
    have FI:args= #[x]:=Array.toList_inj.1 ha
    have JA:argTypes= #[t]:=Array.toList_inj.1 ht
    subst FI; subst JA
    have hx:=q9 t x
    cases Vm:evp [] t x with
    | c a =>
     rw [Vm] at h hx
     cases a with
     | sl r off len =>
      have h:X.sD m t (.c (.sl r off len))= .w0 v δ:=by
       rcases h with h | h
       ·exact h
       ·exfalso; revert h; simp only [Ctx.sD]; repeat' split
        all_goals simp
      obtain ⟨rfl,w',γ',g1,g2⟩:=Jn hX hR cj hm hx h type
      refine ⟨.value (.tuple #[]),_,w',γ',?_,.inl rfl,⟨[],rfl,.nil⟩,g2⟩
      simp only [Go.execOp,resolve,invoke,Sem.run_bind,Sem.run_pure,Result.andThen_ok,builtin,List.map_toArray,List.map,g1]
     | _=>simp [Ctx.sD] at h
    | _=>rw [Vm] at h; simp [Ctx.sD] at h
   ·rename_i x y t u ha ht
    intro h
    have FI:args= #[x,y]:=Array.toList_inj.1 ha
    have JA:argTypes= #[t,u]:=Array.toList_inj.1 ht
    subst FI; subst JA
    have hx:=q9 t x
    have hy:=q9 u y
    have h:X.uG m t (evp [] t x) (evp [] u y)= .w0 v δ:=by
     rcases h with h | h
     ·exact h
     ·exfalso; revert h; simp only [Ctx.uG]; repeat' split
      all_goals simp
    cases Vm:evp [] t x with
    | c a =>
     cases VF:evp [] u y with
     | c b =>
      rw [Vm,VF] at h
      rw [Vm] at hx; rw [VF] at hy
      have hau:a≠ .un:=by
       rintro rfl
       cases he:X.lE t<;>simp [Ctx.uG,he,Lk.dst] at h
      have hbu:b≠ .un:=by
       rintro rfl
       cases he:X.lE t<;>cases hq:m.dst a<;>simp [Ctx.uG,he,hq,Lk.vw,Vw.ct] at h
      obtain ⟨n,w',γ',rfl,g1,g2⟩:=LD (ty:=type) (u:=u) hX hR cj hm (bn.to hx hau) (bn.to hy hbu) h
      refine ⟨.value (goInt n),_,w',γ',?_,.inl rfl,rfl,g2⟩
      simp only [Go.execOp,resolve,invoke,Sem.run_bind,Sem.run_pure,Result.andThen_ok,builtin,List.map_toArray,List.map,g1]
     | _=>rw [Vm,VF] at h; simp [Ctx.uG] at h
    | _=>rw [Vm] at h; simp [Ctx.uG] at h
   ·intro h; exfalso; revert h; simp only [V8]; repeat' split
    all_goals simp
   ·intro h; exfalso; revert h; simp only [V8]; repeat' split
    all_goals simp
   ·simp
  | value f=>simp [bY] at h
  | invoke r n=>simp [bY] at h
 | move x=>simp [bY] at h
 | assign x=>simp [bY] at h
 | pick c a b =>
  exfalso; revert h; simp only [bY]; repeat' split
  all_goals simp
 | build t ps =>
  exfalso; revert h; simp only [bY]; repeat' split
  all_goals simp
 | load t x =>
  exfalso; revert h; simp only [bY]; repeat' split
  all_goals simp
 | nilCheck x =>
  exfalso; revert h; simp only [bY]; repeat' split
  all_goals simp
 | binOp op t x y c =>
  exfalso; revert h; simp only [bY,Ctx.Em]
  have hb:∀ (a b:AV),¬ (mK op a b= .w0 v δ\/mK op a b= .w true v δ):=by
   intro a b; simp only [mK]; repeat' split
   all_goals simp
  repeat' split
  all_goals first | exact hb _ _ | simp
 | unOp op t x =>
  exfalso; revert h; simp only [bY,Wd]; repeat' split
  all_goals simp
 | convert t u x =>
  exfalso; revert h; simp only [bY,Ctx.KC]; repeat' split
  all_goals simp
 | makeFunc fn first caps =>
  exfalso; revert h; cases fn<;>simp only [bY]<;>repeat' split
  all_goals simp
 | slice t x lo hi mx =>
  exfalso; revert h; simp only [bY]
  have hb:∀ (a:AV) (l k:Option Int),¬ (m.oG a l k= .w0 v δ\/m.oG a l k= .w true v δ):=by
   intro a l k; simp only [Lk.oG]; repeat' split
   all_goals simp
  repeat' split
  all_goals first | exact hb _ _ _ | simp
 | fieldAddr t x f =>
  exfalso; revert h; simp only [bY]; repeat' split
  all_goals simp
 | field t x f =>
  exfalso; revert h; simp only [bY]; repeat' split
  all_goals simp
 | indexAddr t x i =>
  exfalso; revert h; simp only [bY,Lk.qo]; repeat' split
  all_goals simp
 | index t x i =>
  exfalso; revert h; simp only [bY]; repeat' split
  all_goals simp
 | extract x i =>
  exfalso; revert h; simp only [bY]; repeat' split
  all_goals simp
 | _=>simp [bY] at h
structure Rb where
 r:Nat->Option (Nat×Nat)
 d:Option Ow
 v:Nat->Option Ow
def aag (k d:Nat):Option Ow:=match eu d with | true=>some (.r k) | false=>match d with | 3=>some .fz | _=>none
def Zw (k d e c:Nat):Option Ow:=match d with | 5=>some (.n k e c) | 4=>some .fz | 3=>some .fz | _=>none
def Rb.f (a:Rb):Ow->Option Ow
 | .r r=>match a.r r with | some (k,d)=>aag k d | none=>a.d
 | .n r e c=>match a.r r with | some (k,d)=>Zw k d e c | none=>a.d
 | .v k=>a.v k
 | .fz=>some .fz
 | .x=>some .x
theorem qO {d a:Nat} (h:nO d a=true):d=1\/(d=2/\eu a=true)\/(d=3/\(a=3\/a=4\/a=5))\/(d=4/\(a=4\/a=5))\/(d=5/\a=5):=by
 revert h; simp only [nO]; split
 ·simp
 ·intro h; simp [h]
 ·split<;>simp
 ·split<;>simp
 ·split<;>simp
 ·simp
theorem cS.relabel {a:Rb} {O O':OM} {r k d:Nat} {row:Row} {v:Value} {cs:List Value} (h:cS X O w r row v cs) (ha:eu row.ow=true->a.r r=some (k,d)) (hle:nO d row.ow=true)
  (hb:∀ g o,w.heap[g]? =some o->R5 r row.ow (O g)->w'.heap[g]? =some o/\O' g=(O g).bind a.f):cS X O' w' k { row with ow:=d } v cs:=by
 obtain ⟨τ,xs,ow⟩:=row
 simp only at ha hle hb
 have no:(none:Option Ow).bind a.f=none:=rfl
 have fz:(some Ow.fz).bind a.f=some .fz:=rfl
 refine h.re hle (fun g o hg hi=> ?_) (fun e c g o hg hi=> ?_)
 ·obtain ⟨h1,h2⟩:=hb g o hg (.inl hi)
  refine ⟨h1,?_⟩
  rw [h2]
  simp only at hi
  cases gN:eu ow with
  | true =>
   have h3:dN r ow= .own (.r r):=by simp [dN,gN]
   rw [h3] at hi
   have hi:O g=some (.r r):=hi
   rw [hi]
   show In (dN k d) (a.f (.r r))
   simp only [Rb.f,ha gN]
   rcases qO hle with rfl | ⟨rfl,_⟩ | ⟨rfl,_⟩ | ⟨rfl,_⟩ | ⟨rfl,_⟩
   ·exact .inl rfl
   all_goals exact rfl
  | false =>
   have acf:ow≠4/\ow≠5:=by constructor<;>(rintro rfl; simp [eu] at gN)
   have h3:(ow=3/\dN r ow= .fz)\/(ow≠3/\dN r ow= .mW):=by
    by_cases h:ow=3
    ·subst h; exact .inl ⟨rfl,rfl⟩
    ·refine .inr ⟨h,?_⟩
     simp only [dN,gN]
     try (split<;>first | exact absurd rfl h | rfl)
   rcases h3 with ⟨rfl,h3⟩ | ⟨Wl,h3⟩
   ·have hi:O g=some .fz:=hi
    rw [hi,fz]
    rcases qO hle with rfl | ⟨_,h⟩ | ⟨rfl,_⟩ | ⟨_,h⟩ | ⟨_,h⟩
    ·exact .inr rfl
    ·rw [gN] at h; cases h
    ·exact rfl
    ·rcases h with h | h<;>cases h
    ·cases h
   ·rw [h3] at hi
    rcases qO hle with rfl | ⟨_,h⟩ | ⟨_,h⟩ | ⟨_,h⟩ | ⟨_,h⟩
    ·rcases hi with hi | hi<;>rw [hi]
     ·exact .inl rfl
     ·exact .inr rfl
    ·rw [gN] at h; cases h
    ·omega
    ·omega
    ·omega
 ·obtain ⟨h1,h2⟩:=hb g o hg (.inr ⟨e,c,hi⟩)
  refine ⟨h1,?_⟩
  rw [h2]
  simp only at hi
  by_cases h5:ow=5
  ·subst h5
   have hi:O g=some (.n r e c):=hi
   rw [hi]
   show In (dP k e c d) (a.f (.n r e c))
   simp only [Rb.f,ha rfl]
   rcases qO hle with rfl | ⟨rfl,_⟩ | ⟨rfl,_⟩ | ⟨rfl,_⟩ | ⟨rfl,_⟩
   ·exact .inl rfl
   ·exact .inl rfl
   all_goals exact rfl
  ·by_cases h43:ow=4\/ow=3
   ·have hi:O g=some .fz:=by rcases h43 with rfl | rfl<;>exact hi
    rw [hi,fz]
    rcases qO hle with rfl | ⟨rfl,_⟩ | ⟨rfl,_⟩ | ⟨rfl,_⟩ | ⟨rfl,h⟩
    ·exact .inr rfl
    ·exact .inr rfl
    ·exact rfl
    ·exact rfl
    ·exact absurd h h5
   ·have h3:dP r e c ow= .mW:=by
     simp only [dP]
     try (split<;>first | rfl | (exfalso; omega))
    rw [h3] at hi
    rcases qO hle with rfl | ⟨rfl,_⟩ | ⟨rfl,h⟩ | ⟨rfl,h⟩ | ⟨rfl,h⟩
    ·rcases hi with hi | hi<;>rw [hi]
     ·exact .inl rfl
     ·exact .inr rfl
    ·rcases hi with hi | hi<;>rw [hi]
     ·exact .inl rfl
     ·exact .inr rfl
    ·omega
    ·omega
    ·omega
theorem Hd {O O':OM} {k:Nat} {row:Row} {v:Value} {cs:List Value} (h:cS X O w k row v cs)
  (hf:∀ g o,w.heap[g]? =some o->R5 k row.ow (O g)->w'.heap[g]? =some o/\O' g=O g):cS X O' w' k row v cs:=by
 refine ⟨h.top.re (c':=dN k row.ow) (fun g o hg hi=> ?_) id,fun e c ct he hc=> ?_⟩
 ·obtain ⟨h1,h2⟩:=hf g o hg (.inl hi); exact ⟨h1,h2▸hi⟩
 ·obtain ⟨u,hu,hr⟩:=h.rA e c ct he hc
  exact ⟨u,hu,hr.re (fun g o hg hi=>by obtain ⟨h1,h2⟩:=hf g o hg (.inr ⟨e,c,hi⟩); exact ⟨h1,h2▸hi⟩) id⟩
inductive lC (m:Lk) (γ:Gh):List AV->List Value->Prop
 | nil:lC m γ [] []
 | cons {x:AV} {v:Value} {l:List AV} {u:List Value}:bn m γ x v->lC m γ l u->lC m γ (x::l) (v::u)
structure Ti (X:Ctx) (g:tE) (cb:List AC) (cJ:List (List Ct)) (γ:Gh) (w:World) (args:List Value):Prop where
 rel:Rel X (entry g cb cJ).lk γ w
 top:∀ b,w.heap.size<=b->γ.O b=none
 args:lC (entry g cb cJ).lk γ (rN g.am 0 cb).1 args
def Md (X:Ctx) (O:OM) (w:World) (md:Nat) (τ:Ty) (xs:List (El τ)) (v:Value) (ks:List Nat):Prop :=
 (xs=[]/\v= .slice none 0 0/\ks=[])\/∃ key cs,ks=[key]/\cS X O w key ⟨τ,xs,md⟩ v cs
def rF (X:Ctx) (e0:Lk) (γ0:Gh) (K:List Nat) (O:OM) (w:World) (md:Nat):Rc->Value->List Nat->Prop
 | .c (.l τ xs),v,ks=>(rL md=true\/ks=[])/\Md X O w md τ xs v ks
 | .c .u,v,ks=>ks=[]/\v.oneCell'=true
 | .c ct,v,ks=>ks=[]/\v=gx ct
 | .m ct,v,ks=>ks=[]/\v.oneCell'=true/\CtV (fun g=>∃ r,r∉K/\Mk r (O g)) w ct v
 | .al p j e c,v,ks=>ks=[]/\∃ row τ ys,j<64/\100000+p*64+j<200000/\e0.r (100000+p*64+j)=some row/\e<row.xs.length/\(row.cs e)[c]? =some (.l τ ys)/\(γ0.cv (100000+p*64+j))[e*sz row.τ+c]? =some v
 | .aw p j,v,ks=>ks=[]/\∃ row,j<64/\100000+p*64+j<200000/\e0.r (100000+p*64+j)=some row/\v=γ0.rv (100000+p*64+j)
 | .un,v,ks=>ks=[]/\v.oneCell'=true
inductive m8 (X:Ctx) (e0:Lk) (γ0:Gh) (K:List Nat) (O:OM) (w:World):List Nat->List Rc->List Value->List Nat->Prop
 | nil {ms:List Nat}:m8 X e0 γ0 K O w ms [] [] []
 | cons {ms:List Nat} {y:Rc} {v:Value} {k:List Nat} {ys:List Rc} {vs:List Value} {ks:List Nat}:rF X e0 γ0 K O w (hd ms) y v k->m8 X e0 γ0 K O w (tl ms) ys vs ks ->
   m8 X e0 γ0 K O w ms (y::ys) (v::vs) (k++ks)
inductive qM (X:Ctx) (e0:Lk) (γ0:Gh) (K:List Nat) (O:OM) (w:World):List (List Nat)->List (Bool×List Rc)->List Value->List Nat->Prop
 | nil {ms:List (List Nat)}:qM X e0 γ0 K O w ms [] [] []
 | cons {ms:List (List Nat)} {b:Bool} {l:List Rc} {us:List Value} {v:Value} {k:List Nat} {ys:List (Bool×List Rc)} {vs:List Value} {ks:List Nat}:m8 X e0 γ0 K O w (nK ms) l us k ->
   (b=true->v= .agg us.toArray)->(b=false->us=[v])->qM X e0 γ0 K O w (tl ms) ys vs ks->qM X e0 γ0 K O w ms ((b,l)::ys) (v::vs) (k++ks)
def vu (X:Ctx) (e0:Lk) (γ0:Gh) (K:List Nat) (O:OM) (w:World) (rl:List (List Nat)):RC->Value->List Nat->Prop
 | .u,v,ks=>ks=[]/\v= .tuple #[]
 | .c x,v,ks=>rF X e0 γ0 K O w (hd (nK rl)) x v ks
 | .a l,v,ks=>∃ us,v= .agg us.toArray/\m8 X e0 γ0 K O w (nK rl) l us ks
 | .t l,v,ks=>∃ us,v= .tuple us.toArray/\qM X e0 γ0 K O w rl l us ks
 | .np l,v,ks=>∃ cv g cur e,1000<=cv/\v= .pointer (some ⟨g,0,none⟩)/\O g=some (.v cv)/\w.heap[g]? =some (.cells cur e (0,0))/\m8 X e0 γ0 K O w (nK rl) l cur.toList ks
def sW (X:Ctx) (γ0:Gh) (O:OM) (w:World) (key md:Nat) (y:Ct) (v:Value) (ks:List Nat):Prop:=match md with
 | 0=>ks=[]/\v=gx y/\(match y with | .u=>False | .l _ _=>False | _=>True)
 | 1=>ks=[]/\v=γ0.rv key
 | md=>match y with | .l τ xs=>rL md=true/\Md X O w md τ xs v ks | _=>False
inductive pJ (X:Ctx) (γ0:Gh) (O:OM) (w:World):Nat->List Nat->List Ct->List Value->List Nat->Prop
 | nil {k:Nat} {ms:List Nat}:pJ X γ0 O w k ms [] [] []
 | cons {k:Nat} {ms:List Nat} {y:Ct} {v:Value} {a:List Nat} {ys:List Ct} {vs:List Value} {ks:List Nat}:sW X γ0 O w k (hd ms) y v a->pJ X γ0 O w (k+1) (tl ms) ys vs ks ->
   pJ X γ0 O w k ms (y::ys) (v::vs) (a++ks)
inductive wB (X:Ctx) (γ0:Gh) (O:OM) (w:World):Nat->List (List Nat)->List (List Ct)->List Nat->Prop
 | nil {k:Nat} {ms:List (List Nat)}:wB X γ0 O w k ms [] []
 | cons {k:Nat} {ms:List (List Nat)} {l:List Ct} {a:List Nat} {vo:List (List Ct)} {ks:List Nat} {cur:Array Value} {e:TypeId}:O (γ0.vb k)=some (.v k)->w.heap[γ0.vb k]? =some (.cells cur e (0,0)) ->
   pJ X γ0 O w (300000+k*64) (nK ms) l cur.toList a->wB X γ0 O w (k+1) (tl ms) vo ks->wB X γ0 O w k ms (l::vo) (a++ks)
inductive ry (X:Ctx) (γ0:Gh) (O:OM) (w:World):Nat->List AC->List Ct->List Nat->Prop
 | nil {p:Nat}:ry X γ0 O w p [] [] []
 | io {p:Nat} {τ:Ty} {xs xs':List (El τ)} {cs:List Value} {l:List AC} {ys:List Ct} {ks:List Nat}:cS X O w (200000+p*64) ⟨τ,xs',5⟩ (γ0.rv (200000+p*64)) cs->ry X γ0 O w (p+1) l ys ks ->
   ry X γ0 O w p (.io τ xs::l) (.l τ xs'::ys) ((200000+p*64)::ks)
 | skip {p:Nat} {x:AC} {l:List AC} {ys:List Ct} {ks:List Nat}:(∀ τ xs,x≠ .io τ xs)->ry X γ0 O w (p+1) l ys ks->ry X γ0 O w p (x::l) ys ks
def ER (X:Ctx) (g:tE) (cb:List AC) (cJ:List (List Ct)) (γ0:Gh) (w0:World) (cr:CR) (v:Value) (w:World):Prop :=
 ∃ O ka kb kc,Fr γ0.O w0 O w/\(ka++(kb++kc)).Nodup/\vu X (entry g cb cJ).lk γ0 (ka++(kb++kc)) O w g.rl cr.res v ka/\wB X γ0 O w 0 g.vl cr.vo kb/\ry X γ0 O w 0 cb cr.io kc
def gq {α R:Type} (T:(α->Option R)->Option R):Prop:=∃ o:Option α,∀ k,T k=o.bind k
structure Ar {R:Type} (X:Ctx) (g:tE) (f:FuncId) (F:zi R):Prop where
 FC:∀ cb cJ,gq (F cb cJ)
 ok:∀ (cb:List AC) (cJ:List (List Ct)) (cr:CR),(∀ k,F cb cJ k=k cr)->∀ (γ:Gh) (w:World) (args:List Value),Ti X g cb cJ γ w args ->
  Calls X.P f args.toArray w fun e w'=>∃ v,e= .returned v/\ER X g cb cJ γ w cr v w'
def u0 (P:Program) (f:FuncId):Prop:=∃ fn,P.funcs[f]? =some fn/\(fn.name == "runtime.NumGoroutine")=false/\fn.body.isNone=false
structure te {R:Type} (X:Ctx) (E:Env R):Prop where
 fn:∀ f g,E.sg f=some g->Ar X g f (E.fn f)/\u0 X.P f
 FC:∀ f cb cJ,gq (E.fn f cb cJ)
def md (ms:List Nat) (i:Nat):Nat:=hd (ms.drop i)
def Mj {α:Type} (ms:List (List α)) (i:Nat):List α:=nK (ms.drop i)
theorem Kt {α:Type} (l:List α) (i:Nat):(tl l).drop i=l.drop (i+1):=by cases l<;>simp [tl]
theorem yM (l:List Nat) (i:Nat):md (tl l) i=md l (i+1):=by simp only [md,Kt]
theorem E8 {α:Type} (l:List (List α)) (i:Nat):Mj (tl l) i=Mj l (i+1):=by simp only [Mj,Kt]
theorem v9 (l:List Nat):md l 0=hd l:=rfl
theorem Hk {α:Type} (l:List (List α)):Mj l 0=nK l:=rfl
def tP (key:Nat):Ct->Cv
 | .u=> .un | .b x=> .b x | .i a n=> .i a n | .s x=> .s x | .l _ _=> .sw key
theorem B0 (k w:Nat):∀ (ys:List Ct) (ms:List Nat) (j i:Nat),((oa k w ms j ys).1)[i]? =(ys[i]?).map (tP (k+j+i))
 | [],ms,j,i=>by simp [oa]
 | y::ys,ms,j,i=>by
  have ih:=B0 k w ys (tl ms) (j+1)
  cases i with
  | zero=>cases y<;>simp [oa,tP]
  | succ i =>
   have:=ih i
   cases y<;>simp [oa,this,show k+(j+1)+i=k+j+(i+1) by omega]
theorem sM (k w:Nat):∀ (ys:List Ct) (ms:List Nat) (j:Nat),((oa k w ms j ys).1).length=ys.length
 | [],ms,j=>by simp [oa]
 | y::ys,ms,j=>by have ih:=sM k w ys (tl ms) (j+1); cases y<;>simp [oa,ih]
theorem v7 (k w:Nat):∀ (ys:List Ct) (ms:List Nat) (j:Nat) (key:Nat) (row:Row),(key,row)∈(oa k w ms j ys).2 ↔
  ∃ i τ xs,ys[i]? =some (.l τ xs)/\key=k+j+i/\row=⟨τ,xs,kd w (md ms i)⟩
 | [],ms,j,key,row=>by simp [oa]
 | y::ys,ms,j,key,row=>by
  have ih:=v7 k w ys (tl ms) (j+1) key row
  have rest:(∃ i τ xs,ys[i]? =some (.l τ xs)/\key=k+(j+1)+i/\row=⟨τ,xs,kd w (md (tl ms) i)⟩) ↔
    ∃ i τ xs,(y::ys)[i+1]? =some (.l τ xs)/\key=k+j+(i+1)/\row=⟨τ,xs,kd w (md ms (i+1))⟩:=by
   simp only [yM,List.getElem?_cons_succ,show ∀ i,k+(j+1)+i=k+j+(i+1) by intro i; omega]
  have split:(∃ i τ xs,(y::ys)[i]? =some (.l τ xs)/\key=k+j+i/\row=⟨τ,xs,kd w (md ms i)⟩) ↔
    ((∃ τ xs,y= .l τ xs/\key=k+j/\row=⟨τ,xs,kd w (md ms 0)⟩) \/
    ∃ i τ xs,(y::ys)[i+1]? =some (.l τ xs)/\key=k+j+(i+1)/\row=⟨τ,xs,kd w (md ms (i+1))⟩):=by
   constructor
   ·rintro ⟨i,τ,xs,h1,h2,h3⟩
    cases i with
    | zero=>exact .inl ⟨τ,xs,by simpa using h1,h2,h3⟩
    | succ i=>exact .inr ⟨i,τ,xs,h1,h2,h3⟩
   ·rintro (⟨τ,xs,h1,h2,h3⟩ | ⟨i,τ,xs,h1,h2,h3⟩)
    ·exact ⟨0,τ,xs,by simp [h1],h2,h3⟩
    ·exact ⟨i+1,τ,xs,h1,h2,h3⟩
  rw [split,← rest,← ih]
  cases y with
  | l τ xs =>
   simp only [oa,zI,zG]
   constructor
   ·rintro (⟨h1,h2⟩ | h)
    ·refine .inl ⟨τ,xs,rfl,h1,?_⟩
     rw [h2]; simp [v9]
    ·exact .inr h
   ·rintro (⟨τ',xs',h1,h2,h3⟩ | h)
    ·cases h1
     refine .inl ⟨h2,?_⟩
     rw [h3]; simp [v9]
    ·exact .inr h
  | _=>simp [oa]
def acl:AC->List Ct
 | .c y=>[y] | .a ys=>ys | _=>[]
def C9 (m P:Nat):AC->AV
 | .c y=> .c (tP (100000+P*64) y)
 | .a ys=> .a (oa (100000+P*64) (kd 0 m) [] 0 ys).1
 | .p k=> .c (.pv k 0)
 | .f g ks=> .c (.fn g ks)
 | .al k c=> .c (.sw (300000+k*64+c))
 | .io _ _=> .c (.sw (200000+P*64))
def zk (m P:Nat) (x:AC) (key:Nat) (row:Row):Prop :=
 (∃ j τ xs,(acl x)[j]? =some (.l τ xs)/\key=100000+P*64+j/\row=⟨τ,xs,kd 0 m⟩)\/∃ τ xs,x= .io τ xs/\key=200000+P*64/\row=⟨τ,xs,5⟩
theorem S7 (m n:Nat):kd (kd 0 m) n=kd 0 m:=by cases m<;>rfl
theorem DL (am:List Nat) (p:Nat) (x:AC) (l:List AC):rN am p (x::l)=(C9 (hd am) p x::(rN (tl am) (p+1) l).1,
  (match x with
   | .c y=>(oa (100000+p*64) (kd 0 (hd am)) [] 0 [y]).2
   | .a ys=>(oa (100000+p*64) (kd 0 (hd am)) [] 0 ys).2
   | .io τ xs=>[(200000+p*64,⟨τ,xs,5⟩)]
   | _=>[])++(rN (tl am) (p+1) l).2):=by
 cases x with
 | c y =>
  simp only [rN]
  cases y<;>simp [oa,C9,tP]
 | a ys=>simp only [rN,C9]
 | _=>simp [rN,C9]
theorem wM:∀ (cb:List AC) (am:List Nat) (p i:Nat),((rN am p cb).1)[i]? =(cb[i]?).map (C9 (md am i) (p+i))
 | [],am,p,i=>by simp [rN]
 | x::l,am,p,i=>by
  rw [DL]
  cases i with
  | zero=>simp [v9]
  | succ i=>simp [wM l (tl am) (p+1) i,yM,show p+1+i=p+(i+1) by omega]
theorem BI:∀ (cb:List AC) (am:List Nat) (p:Nat) (key:Nat) (row:Row),(key,row)∈(rN am p cb).2↔∃ i x,cb[i]? =some x/\zk (md am i) (p+i) x key row
 | [],am,p,key,row=>by simp [rN]
 | x::l,am,p,key,row=>by
  have ih:=BI l (tl am) (p+1) key row
  have rest:(∃ i x,l[i]? =some x/\zk (md (tl am) i) (p+1+i) x key row)↔∃ i y,(x::l)[i+1]? =some y/\zk (md am (i+1)) (p+(i+1)) y key row:=by
   simp only [yM,List.getElem?_cons_succ,show ∀ i,p+1+i=p+(i+1) by intro i; omega]
  have split:(∃ i y,(x::l)[i]? =some y/\zk (md am i) (p+i) y key row)↔zk (hd am) p x key row\/∃ i y,(x::l)[i+1]? =some y/\zk (md am (i+1)) (p+(i+1)) y key row:=by
   constructor
   ·rintro ⟨i,y,h1,h2⟩
    cases i with
    | zero=>simp only [List.getElem?_cons_zero,zA] at h1; subst h1; exact .inl h2
    | succ i=>exact .inr ⟨i,y,h1,h2⟩
   ·rintro (h | ⟨i,y,h1,h2⟩)
    ·exact ⟨0,x,rfl,h⟩
    ·exact ⟨i+1,y,h1,h2⟩
  rw [split,← rest,← ih,DL]
  simp only [zH]
  refine or_congr ?_ Iff.rfl
  cases x with
  | c y=>simp only [v7,S7,zk,acl]; simp
  | a ys=>simp only [v7,S7,zk,acl]; simp
  | io τ xs =>
   simp only [zk,acl,zS,zG]
   constructor
   ·rintro ⟨h1,h2⟩; exact .inr ⟨τ,xs,rfl,h1,h2⟩
   ·rintro (⟨j,_,_,h,_⟩ | ⟨_,_,h0,h1,h2⟩)
    ·simp at h
    ·cases h0; exact ⟨h1,h2⟩
  | _=>simp [zk,acl]
theorem DJ (k:Nat) (ms:List (List Nat)) (l:List Ct) (cJ:List (List Ct)):Ay k ms (l::cJ) =
  ((k,(oa (300000+k*64) 0 (nK ms) 0 l).1)::(Ay (k+1) (tl ms) cJ).1,(oa (300000+k*64) 0 (nK ms) 0 l).2++(Ay (k+1) (tl ms) cJ).2):=rfl
theorem BN:∀ (cJ:List (List Ct)) (vl:List (List Nat)) (k:Nat) (key:Nat) (row:Row),(key,row)∈(Ay k vl cJ).2 ↔
  ∃ i l j τ xs,cJ[i]? =some l/\l[j]? =some (.l τ xs)/\key=300000+(k+i)*64+j/\row=⟨τ,xs,kd 0 (md (Mj vl i) j)⟩
 | [],vl,k,key,row=>by simp [Ay]
 | x::cJ,vl,k,key,row=>by
  have ih:=BN cJ (tl vl) (k+1) key row
  rw [DJ,zH,ih,v7]
  constructor
  ·rintro (⟨j,τ,xs,h1,h2,h3⟩ | ⟨i,l,j,τ,xs,h1,h2,h3,h4⟩)
   ·exact ⟨0,x,j,τ,xs,rfl,h1,by omega,h3⟩
   ·exact ⟨i+1,l,j,τ,xs,by simpa using h1,h2,by omega,by rw [h4,E8]⟩
  ·rintro ⟨i,l,j,τ,xs,h1,h2,h3,h4⟩
   cases i with
   | zero=>simp only [List.getElem?_cons_zero,zA] at h1; subst h1; exact .inl ⟨j,τ,xs,h2,by omega,h4⟩
   | succ i=>exact .inr ⟨i,l,j,τ,xs,by simpa using h1,h2,by omega,by rw [h4,E8]⟩
theorem OV:∀ (cJ:List (List Ct)) (vl:List (List Nat)) (k n:Nat),lk (Ay k vl cJ).1 n=if n<k then none else (cJ[n-k]?).map fun l=>(oa (300000+n*64) 0 (Mj vl (n-k)) 0 l).1
 | [],vl,k,n=>by simp [Ay,lk]
 | x::cJ,vl,k,n=>by
  rw [DJ]
  simp only [lk,OV cJ (tl vl) (k+1) n]
  cases h:Nat.beq k n with
  | true=>have:=aF h; subst this; simp [Hk]
  | false =>
   have cL:k≠n:=by rintro rfl; rw [Nat.beq_refl] at h; cases h
   simp only
   by_cases h1:n<k
   ·rw [if_pos h1,if_pos (by omega)]
   ·rw [if_neg h1,if_neg (by omega)]
    obtain ⟨d,rfl⟩:∃ d,n=k+1+d:=⟨n-k-1,by omega⟩
    simp [E8,show k+1+d-k=d+1 by omega,show k+1+d-(k+1)=d by omega]
theorem Ka (g:tE) (cb:List AC) (cJ:List (List Ct)) (k:Nat):(entry g cb cJ).lk.v k=(cJ[k]?).map fun l=>(oa (300000+k*64) 0 (Mj g.vl k) 0 l).1:=by
 show lk (Ay 0 g.vl cJ).1 k=_
 rw [OV]; simp
theorem Hr (g:tE) (cb:List AC) (cJ:List (List Ct)):(entry g cb cJ).rs=(rN g.am 0 cb).2++(Ay 0 g.vl cJ).2:=rfl
theorem JR {g:tE} {cb:List AC} {cJ:List (List Ct)} {key:Nat} {row:Row} (h:(entry g cb cJ).lk.r key=some row) :
  (∃ p x,cb[p]? =some x/\zk (md g.am p) p x key row)\/∃ i l j τ xs,cJ[i]? =some l/\l[j]? =some (.l τ xs)/\key=300000+i*64+j/\row=⟨τ,xs,kd 0 (md (Mj g.vl i) j)⟩:=by
 have h:lk (entry g cb cJ).rs key=some row:=h
 have:=cM h
 rw [Hr,zH,BI,BN] at this
 simpa using this
theorem oC {α:Type} {l:List (Nat×α)} {k:Nat} {v:α} (h:(k,v)∈l):∃ u,lk l k=some u:=by
 cases hl:lk l k with
 | some u=>exact ⟨u,rfl⟩
 | none=>exact absurd (mem_keys h) (cH.1 hl)
theorem uk {g:tE} {cb:List AC} {cJ:List (List Ct)} {key:Nat} {row:Row} (h:(∃ p x,cb[p]? =some x/\zk (md g.am p) p x key row)\/∃ i l j τ xs,cJ[i]? =some l/\l[j]? =some (.l τ xs)/\key=300000+i*64+j/\row=⟨τ,xs,kd 0 (md (Mj g.vl i) j)⟩) :
  ∃ u,(entry g cb cJ).lk.r key=some u:=by
 have:(key,row)∈(entry g cb cJ).rs:=by
  rw [Hr,zH,BI,BN]
  simpa using h
 exact oC this
def vt (key d:Nat):Nat->List Cv->List (Nat×(Nat×Nat))
 | _,[]=>[]
 | j,.sw r::l=>(r,(key+j,d))::vt key d (j+1) l
 | j,_::l=>vt key d (j+1) l
def H4 (n:Nat):Bool:=match n with | 4=>true | 5=>true | _=>false
def Lm (n:Nat):Bool:=match n with | 9=>true | _=>false
def M6:AV->List Cv
 | .c x=>[x] | .a cs=>cs | _=>[]
def uL:List Nat->Nat->List AV->List (Nat×(Nat×Nat))
 | _,_,[]=>[]
 | am,P,v::l=>(match H4 (hd am) with | true=>vt (100000+P*64) (hd am) 0 (M6 v) | false=>[])++uL (tl am) (P+1) l
def FB:List Nat->Nat->List AV->List (Nat×(Nat×Nat))
 | _,_,[]=>[]
 | am,P,v::l=>(match Lm (hd am) with | true=>vt (200000+P*64) 5 0 (M6 v) | false=>[])++FB (tl am) (P+1) l
def zX (key:Nat):List Nat->Nat->List Cv->List (Nat×(Nat×Nat))
 | _,_,[]=>[]
 | ms,j,c::l=>(match hd ms with | 0=>[] | 1=>[] | w=>(match c with | .sw r=>[(r,(key+j,w))] | _=>[]))++zX key (tl ms) (j+1) l
def n5 (m:Lk):Nat->List (List Nat)->List Nat->List (Nat×(Nat×Nat))
 | _,_,[]=>[]
 | k,vl,v::l=>(match m.v v with | some cs=>zX (300000+k*64) (nK vl) 0 cs | none=>[])++n5 m (k+1) (tl vl) l
theorem NO {n:Nat} (h:n≠9):Lm n=false:=by
 unfold Lm; split
 ·exact absurd rfl h
 ·rfl
theorem bx {α:Type} (a b:List (Nat×α)):keys (a++b)=keys a++keys b:=by simp [keys_eq]
theorem J2 (key d:Nat):∀ (cs:List Cv) (j i r:Nat),cs[i]? =some (.sw r)->(r,(key+(j+i),d))∈vt key d j cs
 | [],j,i,r,h=>by simp at h
 | c::cs,j,i,r,h=>by
  cases i with
  | zero=>simp only [List.getElem?_cons_zero,zA] at h; subst h; simp [vt]
  | succ i =>
   have:=J2 key d cs (j+1) i r (by simpa using h)
   rw [show j+1+i=j+(i+1) by omega] at this
   cases c<;>simp only [vt]<;>first | exact zJ _ this | exact this
def OF (m:Lk) (d:Nat) (c:Cv):Prop:=(∃ r row,c= .sw r/\m.r r=some row/\nO d row.ow=true)\/(∃ τ,c= .nl τ)\/(∃ b,c= .b b)\/(∃ k n,c= .i k n)\/∃ s,c= .s s
theorem xy {d:Nat}:∀ {cs:List Cv} {g:List Nat},m.owned d cs=some g->(∀ key k j,keys (vt key k j cs)=g)/\(∀ c∈cs,OF m d c/\∀ r,c= .sw r->r∈g)/\∀ r∈g,∃ row,m.r r=some row/\nO d row.ow=true
 | [],g,h=>by simp only [Lk.owned,zA] at h; subst h; simp [vt,keys]
 | c::cs,g,h=>by
  have flat:m.owned d cs=some g->(∀ r,c≠ .sw r)->OF m d c->(∀ key k j,vt key k j (c::cs)=vt key k (j+1) cs) ->
    (∀ key k j,keys (vt key k j (c::cs))=g)/\(∀ x∈c::cs,OF m d x/\∀ r,x= .sw r->r∈g)/\∀ r∈g,∃ row,m.r r=some row/\nO d row.ow=true:=fun h cL ho hh=>by
   obtain ⟨h1,h2,h3⟩:=xy h
   refine ⟨fun key k j=>by rw [hh]; exact h1 _ _ _,fun x hx=> ?_,h3⟩
   rcases zI.1 hx with rfl | hx
   ·exact ⟨ho,fun r e=>absurd e (cL r)⟩
   ·exact h2 x hx
  cases c with
  | sw r =>
   simp only [Lk.owned] at h
   cases hr:m.r r with
   | none=>simp [hr] at h
   | some row =>
    cases ho:m.owned d cs with
    | none=>simp [hr,ho] at h
    | some k =>
     cases hle:nO d row.ow with
     | false=>simp [hr,ho,hle] at h
     | true =>
      simp only [hr,ho,hle,zA] at h; subst h
      obtain ⟨h1,h2,h3⟩:=xy ho
      refine ⟨fun key k' j=>by simp [vt,keys,h1],fun x hx=> ?_,fun s hs=>(zI.1 hs).elim (fun e=>e▸⟨row,hr,hle⟩) (h3 s)⟩
      rcases zI.1 hx with rfl | hx
      ·exact ⟨.inl ⟨r,row,rfl,hr,hle⟩,fun s e=>by cases e; simp⟩
      ·exact ⟨(h2 x hx).1,fun s e=>zJ _ ((h2 x hx).2 s e)⟩
  | nl τ=>exact flat (by simpa [Lk.owned] using h) (by simp) (.inr (.inl ⟨τ,rfl⟩)) (fun _ _ _=>rfl)
  | b x=>exact flat (by simpa [Lk.owned] using h) (by simp) (.inr (.inr (.inl ⟨x,rfl⟩))) (fun _ _ _=>rfl)
  | i k n=>exact flat (by simpa [Lk.owned] using h) (by simp) (.inr (.inr (.inr (.inl ⟨k,n,rfl⟩)))) (fun _ _ _=>rfl)
  | s x=>exact flat (by simpa [Lk.owned] using h) (by simp) (.inr (.inr (.inr (.inr ⟨x,rfl⟩)))) (fun _ _ _=>rfl)
  | _=>simp [Lk.owned] at h
def V6 (v:AV) (x:AC) (cs:List Cv) (ys:List Ct):Prop:=(v= .a cs/\x= .a ys)\/∃ c y,v= .c c/\x= .c y/\cs=[c]/\ys=[y]
def abt (m:Lk) (G:Nat->Nat->Nat->Prop) (F B:Nat->Prop) (I:Prop) (d P:Nat) (cs:List Cv) (ys ys':List Ct):Prop :=
 (d=0/\ys'=ys/\(∀ c∈cs,∀ r,c.row=some r->B r)/\(I->m.Ml cs=true))\/(d=7/\ys'=ys.map mQ) \/
 (rL d=true/\ys'=ys/\(∀ c∈cs,OF m d c)/\(d=3->∀ c∈cs,∀ r,c= .sw r->F r)/\(d≠3->∀ j r,cs[j]? =some (.sw r)->G r (100000+P*64+j) d)/\(I->d=3))
inductive Af (m:Lk) (κ:List Nat) (G:Nat->Nat->Nat->Prop) (F B:Nat->Prop) (I:Prop) (d P:Nat):AV->AC->Prop
 | ptr {k i:Nat}:¬ I->κ[i]? =some k->Af m κ G F B I d P (.c (.pv k 0)) (.p i)
 | fn {f:Nat} {caps ks:List Nat}:¬ I->ks.length=caps.length->(∀ (i k:Nat),ks[i]? =some k->∃ v,caps[i]? =some v/\κ[k]? =some v)->Af m κ G F B I d P (.c (.fn f caps)) (.f f ks)
 | val {v:AV} {x:AC} {cs:List Cv} {ys ys':List Ct}:V6 v x cs ys'->cs.length<=63->m.iD cs=some ys->abt m G F B I d P cs ys ys'->Af m κ G F B I d P v x
 | io {r:Nat} {τ:Ty} {xs:List (El τ)}:¬ I->d=9->m.r r=some ⟨τ,xs,5⟩->G r (200000+P*64) 5->Af m κ G F B I d P (.c (.sw r)) (.io τ xs)
 | al {r v c:Nat} {cs:List Cv}:¬ I->d=8->κ[0]? =some v->m.v v=some cs->cs[c]? =some (.sw r)->Af m κ G F B I d P (.c (.sw r)) (.al 0 c)
theorem Af.mono {κ κ':List Nat} {G G':Nat->Nat->Nat->Prop} {F F' B B':Nat->Prop} {I I':Prop} {d P:Nat} {v:AV} {x:AC} (h:Af m κ G F B I d P v x) (hκ:∀ (i k:Nat),κ[i]? =some k->κ'[i]? =some k)
  (hG:∀ r k d,G r k d->G' r k d) (hF:∀ r,F r->F' r) (hB:∀ r,B r->B' r) (hI:I'->I):Af m κ' G' F' B' I' d P v x:=by
 cases h with
 | ptr h0 h1=>exact .ptr (fun h=>h0 (hI h)) (hκ _ _ h1)
 | fn h0 h1 h2=>exact .fn (fun h=>h0 (hI h)) h1 fun i k hk=>let ⟨v,h3,h4⟩:=h2 i k hk; ⟨v,h3,hκ _ _ h4⟩
 | val h1 h2 h3 h4 =>
  refine .val h1 h2 h3 ?_
  rcases h4 with ⟨a,b,c,e⟩ | h | ⟨a,b,c,e,f,g⟩
  ·exact .inl ⟨a,b,fun x hx r hr=>hB r (c x hx r hr),fun h=>e (hI h)⟩
  ·exact .inr (.inl h)
  ·exact .inr (.inr ⟨a,b,c,fun h x hx r hr=>hF r (e h x hx r hr),fun h j r hr=>hG _ _ _ (f h j r hr),fun h=>g (hI h)⟩)
 | io h0 h1 h2 h3=>exact .io (fun h=>h0 (hI h)) h1 h2 (hG _ _ _ h3)
 | al h0 h8 h1 h2 h3=>exact .al (fun h=>h0 (hI h)) h8 (hκ _ _ h1) h2 h3
theorem sN {v:Nat}:∀ {l:List Nat} {n k:Nat},mZ v n l=some k->n<=k/\l[k-n]? =some v
 | [],n,k,h=>by simp [mZ] at h
 | x::l,n,k,h=>by
  simp only [mZ] at h
  cases hx:Nat.beq x v with
  | true=>rw [hx] at h; cases h; have:=aF hx; simp [this]
  | false =>
   rw [hx] at h
   obtain ⟨h1,h2⟩:=sN h
   refine ⟨by omega,?_⟩
   rw [show k-n=(k-(n+1))+1 by omega]; simpa using h2
theorem ub {v:Nat}:∀ {l:List Nat} {n:Nat},mZ v n l=none->v∉l
 | [],n,_=>by simp
 | x::l,n,h=>by
  simp only [mZ] at h
  cases hx:Nat.beq x v with
  | true=>rw [hx] at h; cases h
  | false =>
   rw [hx] at h
   simp only [zI,not_or]
   exact ⟨(by rintro rfl; rw [Nat.beq_refl] at hx; cases hx),ub h⟩
theorem Ky {κ:List Nat} {v k:Nat} {κ':List Nat} (h:LY κ v=(k,κ')):κ'[k]? =some v/\(∀ (i x:Nat),κ[i]? =some x->κ'[i]? =some x)/\(κ.Nodup->κ'.Nodup):=by
 simp only [LY] at h
 cases hi:mZ v 0 κ with
 | some j =>
  rw [hi] at h; cases h
  exact ⟨by simpa using (sN hi).2,fun _ _ h=>h,id⟩
 | none =>
  rw [hi] at h; cases h
  refine ⟨by simp,fun i x hx=> ?_,fun hn=> ?_⟩
  ·have:=(zU.1 hx).1
   rw [List.getElem?_append_left this]; exact hx
  ·rw [List.nodup_append]
   refine ⟨hn,by simp,?_⟩
   intro a ha b hb
   simp at hb; subst hb
   rintro rfl; exact ub hi ha
theorem Gp:∀ {vs κ ks κ':List Nat},BP κ vs=(ks,κ')->ks.length=vs.length/\(∀ (i k:Nat),ks[i]? =some k->∃ v,vs[i]? =some v/\κ'[k]? =some v)/\(∀ (i x:Nat),κ[i]? =some x->κ'[i]? =some x)/\(κ.Nodup->κ'.Nodup)
 | [],κ,ks,κ',h=>by simp only [BP,zG] at h; obtain ⟨rfl,rfl⟩:=h; simp
 | v::vs,κ,ks,κ',h=>by
  simp only [BP] at h
  cases h1:LY κ v with
  | mk k κ1 =>
   cases h2:BP κ1 vs with
   | mk ks2 κ2 =>
    simp only [h1,h2,zG] at h
    obtain ⟨rfl,rfl⟩:=h
    obtain ⟨a1,a2,a3⟩:=Ky h1
    obtain ⟨b1,b2,b3,b4⟩:=Gp h2
    refine ⟨by simp [b1],fun i k hk=> ?_,fun i x hx=>b3 _ _ (a2 _ _ hx),fun hn=>b4 (a3 hn)⟩
    cases i with
    | zero=>simp only [List.getElem?_cons_zero,zA] at hk; subst hk; exact ⟨v,rfl,b3 _ _ a1⟩
    | succ i=>simpa using b2 i k (by simpa using hk)
theorem Dg {r:Nat}:∀ {cs:List Cv} {n c:Nat},wG r n cs=some c->n<=c/\cs[c-n]? =some (.sw r)
 | [],n,c,h=>by simp [wG] at h
 | x::cs,n,c,h=>by
  have rest:wG r (n+1) cs=some c->n<=c/\(x::cs)[c-n]? =some (.sw r):=fun h=>by
   obtain ⟨h1,h2⟩:=Dg h
   refine ⟨by omega,?_⟩
   rw [show c-n=(c-(n+1))+1 by omega]; simpa using h2
  cases x with
  | sw s =>
   simp only [wG] at h
   cases hs:Nat.beq s r with
   | true=>rw [hs] at h; cases h; have:=aF hs; simp [this]
   | false=>rw [hs] at h; exact rest h
  | _=>exact rest (by simpa [wG] using h)
theorem Rw {x:Cv} {y:Ct} (h:m.ct x=some y):m.iD [x]=some [y]:=by simp [Lk.iD,h]
theorem Iy (l:List Ct):rP mQ l=l.map mQ:=xe _ _
structure Kh (m:Lk) (am:List Nat) (P:Nat) (iZ:List AV) (κ0:List Nat) (ar:AR):Prop where
 len:ar.cb.length=iZ.length
 pre:∀ (i k:Nat),κ0[i]? =some k->ar.κ[i]? =some k
 nd:κ0.Nodup->ar.κ.Nodup
 gone:keys (uL am P iZ)=ar.gone
 io:keys (FB am P iZ)=ar.io
 arg:∀ i v,iZ[i]? =some v->∃ x,ar.cb[i]? =some x/\Af m ar.κ (fun r k d=>(r,(k,d))∈uL am P iZ++FB am P iZ) (·∈ar.fz) (·∈ar.mW) (ar.lr=true) (md am i) (P+i) v x
 WQ:ar.lr=true->∀ r∈ar.mW,∀ row,m.r r=some row->eu row.ow=false
 WH:ar.lr=true->ar.κ=κ0
 Wj:∀ r∈ar.fz,∃ row,m.r r=some row/\nO 3 row.ow=true
theorem Bm:∀ {cs:List Cv},m.Ml cs=true->∀ r∈EO cs,∀ row,m.r r=some row->eu row.ow=false
 | [],_,r,h=>by simp [EO] at h
 | x::cs,h,r,hr=>by
  simp only [Lk.Ml] at h
  cases hx:m.L2 x with
  | false=>rw [hx] at h; cases h
  | true =>
   rw [hx] at h
   simp only [EO] at hr
   cases bo:x.row with
   | none=>rw [bo] at hr; exact Bm h r hr
   | some s =>
    rw [bo] at hr
    rcases zI.1 hr with rfl | hr
    ·intro row hm
     simp only [Lk.L2,bo,hm] at hx
     revert hx; split<;>simp_all [eu]
    ·exact Bm h r hr
theorem sb:∀ (iZ:List AV) (am:List Nat) (κ0:List Nat) (P:Nat) (ar:AR),m.args am iZ κ0=some ar->Kh m am P iZ κ0 ar
 | [],am,κ0,P,ar,h=>by
  simp only [Lk.args,zA] at h; subst h
  exact ⟨rfl,fun _ _ h=>h,id,rfl,rfl,fun i v h=>by simp at h,fun _ r h=>by simp at h,fun _=>rfl,fun r h=>by simp at h⟩
 | v::l,am,κ0,P,ar,h=>by
  have cons:∀ (κ1:List Nat) (x:AC) (g io fz mW:List Nat) (b:Bool),sE x g io fz mW b (m.args (tl am) l κ1)=some ar->(∀ (i k:Nat),κ0[i]? =some k->κ1[i]? =some k)->(κ0.Nodup->κ1.Nodup) ->
    keys (match H4 (hd am) with | true=>vt (100000+P*64) (hd am) 0 (M6 v) | false=>[])=g->keys (match Lm (hd am) with | true=>vt (200000+P*64) 5 0 (M6 v) | false=>[])=io ->
    Af m κ1 (fun r k d=>(r,(k,d))∈(match H4 (hd am) with | true=>vt (100000+P*64) (hd am) 0 (M6 v) | false=>[])++(match Lm (hd am) with | true=>vt (200000+P*64) 5 0 (M6 v) | false=>[])) (·∈fz) (·∈mW) (b=true) (hd am) P v x ->
    (b=true->(∀ r∈mW,∀ row,m.r r=some row->eu row.ow=false)/\κ1=κ0)->(∀ r∈fz,∃ row,m.r r=some row/\nO 3 row.ow=true)->Kh m am P (v::l) κ0 ar:=by
   intro κ1 x g io fz mW b hc h1 h2 h3 h4 h5 h6 h7
   cases hq:m.args (tl am) l κ1 with
   | none=>simp [hq,sE] at hc
   | some q =>
    simp only [hq,sE,zA] at hc; subst hc
    have ih:=sb l (tl am) κ1 (P+1) q hq
    refine ⟨by simp [ih.len],fun i k hk=>ih.pre _ _ (h1 _ _ hk),fun hn=>ih.nd (h2 hn),?_,?_,fun i u hu=> ?_,fun hi r hr row hm=> ?_,fun hi=> ?_,fun r hr=>(zH.1 hr).elim (h7 r) (ih.Wj r)⟩
    ·simp only [uL,bx,h3,ih.gone]
    ·simp only [FB,bx,h4,ih.io]
    ·cases i with
     | zero =>
      simp only [List.getElem?_cons_zero,zA] at hu; subst hu
      refine ⟨x,rfl,h5.mono ih.pre (fun r k d hg=> ?_) (fun r hr=>List.mem_append_left _ hr) (fun r hr=>List.mem_append_left _ hr) (fun h=>by cases b<;>simp_all)⟩
      simp only [uL,FB,zH] at hg ⊢
      rcases hg with hg | hg
      ·exact .inl (.inl hg)
      ·exact .inr (.inl hg)
     | succ i =>
      obtain ⟨y,hy,hr⟩:=ih.arg i u (by simpa using hu)
      refine ⟨y,by simpa using hy,?_⟩
      rw [← yM,show P+(i+1)=P+1+i by omega]
      refine hr.mono (fun _ _ h=>h) (fun r k d hg=> ?_) (fun r hr=>List.mem_append_right _ hr) (fun r hr=>List.mem_append_right _ hr) (fun h=>by cases b<;>simp_all)
      simp only [uL,FB,zH] at hg ⊢
      rcases hg with hg | hg
      ·exact .inl (.inr hg)
      ·exact .inr (.inr hg)
    ·have hb:b=true/\q.lr=true:=by cases b<;>simp_all
     rcases zH.1 hr with hr | hr
     ·exact (h6 hb.1).1 r hr row hm
     ·exact ih.WQ hb.2 r hr row hm
    ·have hb:b=true/\q.lr=true:=by cases b<;>simp_all
     exact (ih.WH hb.2).trans (h6 hb.1).2
  have byv:∀ (cs:List Cv) (ys:List Ct) (x:AC),M6 v=cs->cs.length<=63->m.iD cs=some ys->(∀ ys',(ys'=ys/\V6 v x cs ys')\/(ys'=ys.map mQ/\V6 v (GG x) cs ys')\/True)->V6 v x cs ys->V6 v (GG x) cs (ys.map mQ)->Lm (hd am)=false ->
    m.OG (hd am) cs x (m.args (tl am) l κ0)=some ar->Kh m am P (v::l) κ0 ar:=by
   intro cs ys x Yu hlen MO _ HO MV h9 h
   simp only [Lk.OG] at h
   revert h; split
   ·rename_i h0
    intro h
    refine cons κ0 x [] [] [] (EO cs) (m.Ml cs) h (fun _ _ h=>h) id (by rw [h0]; rfl) (by rw [h0]; rfl) (.val HO hlen MO (.inl ⟨h0,rfl,fun c hc r hr=> ?_,id⟩)) (fun h=>⟨Bm h,rfl⟩) (by simp)
    have:∀ (l:List Cv),c∈l->r∈EO l:=by
     intro l
     induction l with
     | nil=>simp
     | cons a l ih =>
      intro hm
      simp only [EO]
      rcases zI.1 hm with rfl | hm
      ·rw [hr]; simp
      ·cases a.row with
       | some s=>exact zJ _ (ih hm)
       | none=>exact ih hm
    exact this cs hc
   ·rename_i h0
    intro h
    exact cons κ0 (GG x) [] [] [] [] true h (fun _ _ h=>h) id (by rw [h0]; rfl) (by rw [h0]; rfl) (.val MV hlen MO (.inr (.inl ⟨h0,rfl⟩))) (fun _=>⟨by simp,rfl⟩) (by simp)
   ·rename_i h0 h7
    cases hk:rL (hd am) with
    | false=>simp [hk]
    | true =>
     cases ho:m.owned (hd am) cs with
     | none=>simp [hk,ho]
     | some g =>
      simp only [hk,ho]
      obtain ⟨o1,o2,o3⟩:=xy ho
      have Yz:hd am=3\/hd am=4\/hd am=5:=by revert hk; simp only [rL]; split<;>simp_all
      split
      ·rename_i h3
       intro h
       refine cons κ0 x [] [] g [] true h (fun _ _ h=>h) id (by rw [h3]; rfl) (by rw [h3]; rfl) (.val HO hlen MO (.inr (.inr ⟨hk,rfl,fun c hc=>(o2 c hc).1,fun _ c hc r hr=>(o2 c hc).2 r hr,fun h=>absurd h3 h,fun _=>h3⟩))) (fun _=>⟨by simp,rfl⟩) (fun r hr=>by have:=o3 r hr; rwa [h3] at this)
      ·rename_i h3
       intro h
       have Zl:H4 (hd am)=true:=by rcases Yz with h | h | h<;>rw [h] at h3 ⊢<;>first | rfl | exact absurd rfl h3
       refine cons κ0 x g [] [] [] false h (fun _ _ h=>h) id (by simp only [Zl,Yu]; exact o1 _ _ _) (by simp only [h9]; rfl) (.val HO hlen MO (.inr (.inr ⟨hk,rfl,fun c hc=>(o2 c hc).1,fun h=>absurd h h3,fun _ j r hr=> ?_,fun h=>by cases h⟩))) (fun h=>by cases h) (by simp)
       simp only [Zl,Yu,zH]
       left
       have:=J2 (100000+P*64) (hd am) cs 0 j r hr
       rwa [Nat.zero_add] at this
  have none1:∀ (x:Cv),(∀ r,x≠ .sw r)->keys (match H4 (hd am) with | true=>vt (100000+P*64) (hd am) 0 [x] | false=>[])=[]/\keys (match Lm (hd am) with | true=>vt (200000+P*64) 5 0 [x] | false=>[])=[]:=by
   intro x hx
   have:∀ key d,vt key d 0 [x]=[]:=by intro key d; cases x<;>first | rfl | exact absurd rfl (hx _)
   constructor<;>split<;>simp [this,keys]
  have cell:∀ x,v= .c x->(∀ k,x≠ .pv k 0)->(∀ f caps,x≠ .fn f caps)->Kh m am P (v::l) κ0 ar:=by
   rintro x rfl hpv Qn
   have h:m.Uu (hd am) x κ0 (m.args (tl am) l κ0)=some ar:=by
    revert h; cases x<;>first | exact absurd rfl (Qn _ _) | (simp only [Lk.args]; exact id) | skip
   simp only [Lk.Uu,Lk.WT,Lk.WK] at h
   revert h; split
   ·rename_i h9
    split
    ·rename_i r
     cases hr:m.r r with
     | none=>simp
     | some row =>
      obtain ⟨τ,xs,ow⟩:=row
      cases h5:Nat.beq ow 5 with
      | false=>simp [h5]
      | true =>
       simp only [h5]
       intro h
       have:=aF h5; subst this
       refine cons κ0 _ [] [r] [] [] false h (fun _ _ h=>h) id (by rw [h9]; rfl) (by rw [h9]; rfl) (.io (by simp) h9 hr ?_) (fun h=>by cases h) (by simp)
       rw [h9]; simp [H4,Lm,vt,M6]
    ·simp
   ·rename_i h8
    split
    ·rename_i r v κ'
     cases hv:m.v v with
     | none=>simp
     | some cs =>
      cases hf:wG r 0 cs with
      | none=>simp [hf]
      | some c =>
       simp only [hf]
       intro h
       have:=(Dg hf).2
       refine cons _ _ [] [] [] [] false h (fun _ _ h=>h) id (by rw [h8]; rfl) (by rw [h8]; rfl) (.al (by simp) h8 (v:=v) rfl hv (by simpa using this)) (fun h=>by cases h) (by simp)
    ·simp
   ·rename_i h9 h8
    cases dg:m.ct x with
    | none=>simp
    | some y =>
     simp only
     intro h
     have Ys:Lm (hd am)=false:=NO h9
     exact byv [x] [y] (.c y) rfl (by simp) (Rw dg) (fun _=> .inr (.inr trivial)) (.inr ⟨x,y,rfl,rfl,rfl,rfl⟩) (.inr ⟨x,mQ y,rfl,rfl,rfl,rfl⟩) Ys h
  cases v with
  | c x =>
   cases x with
   | pv k c =>
    cases c with
    | zero =>
     simp only [Lk.args] at h
     cases ha:LY κ0 k with
     | mk i κ1 =>
      simp only [ha] at h
      obtain ⟨a1,a2,a3⟩:=Ky ha
      obtain ⟨n1,n2⟩:=none1 (.pv k 0) (by simp)
      exact cons κ1 _ [] [] [] [] false h a2 a3 n1 n2 (.ptr (by simp) a1) (fun h=>by cases h) (by simp)
    | succ c=>exact cell _ rfl (by simp) (by simp)
   | fn f caps =>
    simp only [Lk.args] at h
    cases ha:BP κ0 caps with
    | mk ks κ1 =>
     simp only [ha] at h
     obtain ⟨a1,a2,a3,a4⟩:=Gp ha
     obtain ⟨n1,n2⟩:=none1 (.fn f caps) (by simp)
     exact cons κ1 _ [] [] [] [] false h a3 a4 n1 n2 (.fn (by simp) a1 a2) (fun h=>by cases h) (by simp)
   | _=>exact cell _ rfl (by simp) (by simp)
  | a cs =>
   simp only [Lk.args] at h
   cases hb:Nat.ble cs.length 63 with
   | false=>simp [hb] at h
   | true =>
    cases hc:m.iD cs with
    | none=>simp [hb,hc] at h
    | some ys =>
     simp only [hb,hc] at h
     by_cases h9:hd am=9
     ·rw [h9] at h; simp [Lk.OG,rL] at h
     ·have Ys:Lm (hd am)=false:=NO h9
      exact byv cs ys (.a ys) rfl (zQ hb) hc (fun _=> .inr (.inr trivial)) (.inl ⟨rfl,rfl⟩) (.inl ⟨rfl,by simp [GG,Iy]⟩) Ys h
  | _=>simp [Lk.args] at h
theorem eI {a b:List Nat}:jr a b=true↔∀ x∈a,x∉b:=by
 induction a with
 | nil=>simp [jr]
 | cons x a ih =>
  simp only [jr]
  cases h:cd x b with
  | true=>simp; exact fun h2=>absurd (fb.1 h) h2
  | false =>
   have:x∉b:=fun h2=>by rw [fb.2 h2] at h; cases h
   simp [ih,this]
def FL (m:Lk) (B:Nat->Prop) (G:Nat->Nat->Nat->Prop) (key d:Nat) (c:Cv):Prop :=
 ((d=0\/d=1)/\∀ r,c.row=some r->B r)\/(rL d=true/\((∃ r row,c= .sw r/\m.r r=some row/\nO d row.ow=true/\yP r=true/\G r key d)\/∃ τ,c= .nl τ))
theorem yK (key:Nat):∀ {cs:List Cv} {ms:List Nat} {j:Nat} {k b:List Nat},m.ku ms cs=some (k,b)->keys (zX key ms j cs)=k /\
  ∀ i c,cs[i]? =some c->FL m (·∈b) (fun r x d=>(r,(x,d))∈zX key ms j cs) (key+(j+i)) (md ms i) c
 | [],ms,j,k,b,h=>by simp only [Lk.ku,zA,zG] at h; obtain ⟨rfl,rfl⟩:=h; simp [zX,keys]
 | c::cs,ms,j,k,b,h=>by
  simp only [Lk.ku] at h
  cases hr:m.ku (tl ms) cs with
  | none=>simp [hr] at h
  | some p =>
   obtain ⟨k0,b0⟩:=p
   simp only [hr] at h
   obtain ⟨i1,i2⟩:=yK key (j:=j+1) hr
   have rest:∀ (b':List Nat) (pre:List (Nat×(Nat×Nat))),(∀ x∈b0,x∈b')->zX key ms j (c::cs)=pre++zX key (tl ms) (j+1) cs ->
     FL m (·∈b') (fun r x d=>(r,(x,d))∈zX key ms j (c::cs)) (key+(j+0)) (md ms 0) c ->
     ∀ i c',(c::cs)[i]? =some c'->FL m (·∈b') (fun r x d=>(r,(x,d))∈zX key ms j (c::cs)) (key+(j+i)) (md ms i) c':=by
    intro b' pre hb hp h0 i c' hc
    cases i with
    | zero=>simp only [List.getElem?_cons_zero,zA] at hc; subst hc; exact h0
    | succ i =>
     have:=i2 i c' (by simpa using hc)
     rw [yM,show key+(j+1+i)=key+(j+(i+1)) by omega] at this
     rcases this with ⟨h1,h2⟩ | ⟨h1,h2⟩
     ·exact .inl ⟨h1,fun r hr=>hb _ (h2 r hr)⟩
     ·refine .inr ⟨h1,?_⟩
      rcases h2 with ⟨r,row,e1,e2,e3,e4,e5⟩ | h2
      ·exact .inl ⟨r,row,e1,e2,e3,e4,by rw [hp]; exact List.mem_append_right _ e5⟩
      ·exact .inr h2
   have mW:(hd ms=0\/hd ms=1)->(match c.row with | some r=>some (k0,r::b0) | none=>some (k0,b0))=some (k,b) ->
     keys (zX key ms j (c::cs))=k/\∀ i c',(c::cs)[i]? =some c'->FL m (·∈b) (fun r x d=>(r,(x,d))∈zX key ms j (c::cs)) (key+(j+i)) (md ms i) c':=fun hm h=>by
    have hp:zX key ms j (c::cs)=[]++zX key (tl ms) (j+1) cs:=by rcases hm with hm | hm<;>simp only [zX,hm]
    cases bo:c.row with
    | none =>
     rw [bo] at h; simp only [zA,zG] at h; obtain ⟨rfl,rfl⟩:=h
     exact ⟨by rw [hp]; exact i1,rest b0 [] (fun _ h=>h) hp (.inl ⟨hm,fun r hr=>by rw [bo] at hr; cases hr⟩)⟩
    | some r =>
     rw [bo] at h; simp only [zA,zG] at h; obtain ⟨rfl,rfl⟩:=h
     exact ⟨by rw [hp]; exact i1,rest (r::b0) [] (fun _ h=>zJ _ h) hp (.inl ⟨hm,fun s hs=>by rw [bo] at hs; cases hs; simp⟩)⟩
   revert h; split
   ·rename_i h0; exact fun h=>mW (.inl h0) h
   ·rename_i h1; exact fun h=>mW (.inr h1) h
   ·rename_i h0 h1
    split
    ·rename_i r
     cases KO:m.r r with
     | none=>simp
     | some row =>
      cases hk:rL (hd ms)&&yP r with
      | false=>simp [hk]
      | true =>
       cases hle:nO (hd ms) row.ow with
       | false=>simp [hk,hle]
       | true =>
        simp only [hk,hle,zA,zG]
        rintro ⟨rfl,rfl⟩
        simp only [zB] at hk
        have hp:zX key ms j (.sw r::cs)=[(r,(key+j,hd ms))]++zX key (tl ms) (j+1) cs:=by
         simp only [zX]
        exact ⟨by rw [hp,bx,i1]; rfl,rest b0 _ (fun _ h=>h) hp (.inr ⟨hk.1,.inl ⟨r,row,rfl,KO,hle,hk.2,by rw [hp,Nat.add_zero]; simp [v9]⟩⟩)⟩
    ·rename_i τ
     cases hk:rL (hd ms) with
     | false=>simp
     | true =>
      simp only [zA,zG]
      rintro ⟨rfl,rfl⟩
      have hp:zX key ms j (.nl τ::cs)=[]++zX key (tl ms) (j+1) cs:=by simp only [zX]
      exact ⟨by rw [hp]; exact i1,rest b0 [] (fun _ h=>h) hp (.inr ⟨hk,.inr ⟨τ,rfl⟩⟩)⟩
    ·simp
theorem my:∀ {κ:List Nat} {vl:List (List Nat)} {k0:Nat} {k b:List Nat},m.eH vl κ=some (k,b)->keys (n5 m k0 vl κ)=k /\
  ∀ (i v:Nat),κ[i]? =some v->∃ cs,m.v v=some cs/\∀ j c,cs[j]? =some c->FL m (·∈b) (fun r x d=>(r,(x,d))∈n5 m k0 vl κ) (300000+(k0+i)*64+j) (md (Mj vl i) j) c
 | [],vl,k0,k,b,h=>by simp only [Lk.eH,zA,zG] at h; obtain ⟨rfl,rfl⟩:=h; simp [n5,keys]
 | v::κ,vl,k0,k,b,h=>by
  simp only [Lk.eH] at h
  cases hv:m.v v with
  | none=>simp [hv] at h
  | some cs =>
   cases h1:m.ku (nK vl) cs with
   | none=>simp [hv,h1] at h
   | some p =>
    cases h2:m.eH (tl vl) κ with
    | none=>simp [hv,h1,h2] at h
    | some q =>
     obtain ⟨a1,b1⟩:=p
     obtain ⟨a2,b2⟩:=q
     simp only [hv,h1,h2,zA,zG] at h
     obtain ⟨rfl,rfl⟩:=h
     obtain ⟨i1,i2⟩:=yK (300000+k0*64) (j:=0) h1
     obtain ⟨j1,j2⟩:=my (k0:=k0+1) h2
     have hp:n5 m k0 vl (v::κ)=zX (300000+k0*64) (nK vl) 0 cs++n5 m (k0+1) (tl vl) κ:=by simp only [n5,hv]
     refine ⟨by rw [hp,bx,i1,j1],fun i u hu=> ?_⟩
     have lift:∀ {B B':Nat->Prop} {G G':Nat->Nat->Nat->Prop} {key d:Nat} {c:Cv},(∀ r,B r->B' r)->(∀ r k d,G r k d->G' r k d)->FL m B G key d c->FL m B' G' key d c:=by
      intro B B' G G' key d c hB hG h
      rcases h with ⟨h1,h2⟩ | ⟨h1,⟨r,row,e1,e2,e3,e4,e5⟩ | h2⟩
      ·exact .inl ⟨h1,fun r hr=>hB _ (h2 r hr)⟩
      ·exact .inr ⟨h1,.inl ⟨r,row,e1,e2,e3,e4,hG _ _ _ e5⟩⟩
      ·exact .inr ⟨h1,.inr h2⟩
     cases i with
     | zero =>
      simp only [List.getElem?_cons_zero,zA] at hu; subst hu
      refine ⟨cs,hv,fun j c hc=> ?_⟩
      have:=i2 j c hc
      rw [Nat.zero_add] at this
      rw [Nat.add_zero,Hk]
      exact lift (fun r hr=>List.mem_append_left _ hr) (fun r k d hg=>by rw [hp]; exact List.mem_append_left _ hg) this
     | succ i =>
      obtain ⟨cs',Y6,h3⟩:=j2 i u (by simpa using hu)
      refine ⟨cs',Y6,fun j c hc=> ?_⟩
      have:=h3 j c hc
      rw [E8,show k0+1+i=k0+(i+1) by omega] at this
      exact lift (fun r hr=>List.mem_append_right _ hr) (fun r k d hg=>by rw [hp]; exact List.mem_append_right _ hg) this
theorem we:∀ {κ:List Nat} {vl:List (List Nat)} {cJ:List (List Ct)},m.uw vl κ=some cJ->cJ.length=κ.length /\
  ∀ (i v:Nat),κ[i]? =some v->∃ cs l,m.v v=some cs/\m.iD cs=some l/\cJ[i]? =some l/\cs.length<=63
 | [],vl,cJ,h=>by simp only [Lk.uw,zA] at h; subst h; simp
 | v::κ,vl,cJ,h=>by
  simp only [Lk.uw] at h
  cases hv:m.v v with
  | none=>simp [hv] at h
  | some cs =>
   cases hb:Nat.ble cs.length 63 with
   | false=>simp [hv,hb] at h
   | true =>
    cases hc:m.iD cs with
    | none=>simp [hv,hb,hc] at h
    | some l =>
     cases hr:m.uw (tl vl) κ with
     | none=>simp [hv,hb,hc,hr] at h
     | some r =>
      simp only [hv,hb,hc,hr,zA] at h; subst h
      obtain ⟨i1,i2⟩:=we hr
      refine ⟨by simp [i1],fun i u hu=> ?_⟩
      cases i with
      | zero=>simp only [List.getElem?_cons_zero,zA] at hu; subst hu; exact ⟨cs,l,hv,hc,rfl,zQ hb⟩
      | succ i =>
       obtain ⟨cs',l',h1,h2,h3,h4⟩:=i2 i u (by simpa using hu)
       exact ⟨cs',l',h1,h2,by simpa using h3,h4⟩
theorem kq:∀ {cs:List Cv} {ys:List Ct},m.iD cs=some ys->ys.length=cs.length/\∀ (i:Nat) (y:Ct),ys[i]? =some y->∃ c,cs[i]? =some c/\m.ct c=some y
 | [],ys,h=>by simp only [Lk.iD,zA] at h; subst h; simp
 | c::cs,ys,h=>by
  simp only [Lk.iD] at h
  cases h1:m.ct c with
  | none=>simp [h1] at h
  | some y =>
   cases h2:m.iD cs with
   | none=>simp [h1,h2] at h
   | some r =>
    simp only [h1,h2,zA] at h; subst h
    obtain ⟨i1,i2⟩:=kq h2
    refine ⟨by simp [i1],fun i u hu=> ?_⟩
    cases i with
    | zero=>simp only [List.getElem?_cons_zero,zA] at hu; subst hu; exact ⟨c,rfl,h1⟩
    | succ i=>simpa using i2 i u (by simpa using hu)
structure bL where
 m:Lk
 g:tE
 iZ:List AV
 ar:AR
 cJ:List (List Ct)
 ow:List Nat
 b:List Nat
structure bL.Ok (c:bL):Prop where
 args:c.m.args c.g.am c.iZ []=some c.ar
 uw:c.m.uw c.g.vl c.ar.κ=some c.cJ
 hand:c.m.s9 c.g c.ar=some (c.ow,c.b)
 len:c.iZ.length<=1000
 aaJ:c.ar.κ.length<=1000
def bL.H (c:bL):List (Nat×(Nat×Nat)):=uL c.g.am 0 c.iZ++(n5 c.m 0 c.g.vl c.ar.κ++FB c.g.am 0 c.iZ)
def bL.mW (c:bL) (r:Nat):Prop:=r∈c.ar.mW\/r∈c.b
open Classical in
noncomputable def bL.rb (c:bL):Rb where
 r r:=match lk c.H r with
  | some p=>some p
  | none=>if r∈c.ar.fz then some (0,3) else if c.mW r/\∃ row,c.m.r r=some row/\eu row.ow=true then some (0,1) else none
 d:=some .x
 v v:=match mZ v 0 c.ar.κ with | some k=>some (.v k) | none=>some .x
def cellAt (v:Value) (j:Nat):Value:=v.cells.toList.getD j undef
def bL.rv (c:bL) (γ:Gh) (w:World) (args:List Value) (key:Nat):Value :=
 if key<200000 then cellAt (args.getD ((key-100000)/64) undef) ((key-100000) % 64) else if key<300000 then args.getD ((key-200000)/64) undef
 else match w.heap[γ.vb (c.ar.κ.getD ((key-300000)/64) 0)]? with
  | some (.cells cur _ _)=>cur.toList.getD ((key-300000) % 64) undef
  | _=>undef
noncomputable def bL.O (c:bL) (γ:Gh):OM:=fun g=>(γ.O g).bind c.rb.f
open Classical in
noncomputable def bL.cv (c:bL) (X:Ctx) (γ:Gh) (w:World) (args:List Value) (key:Nat):List Value :=
 match (entry c.g c.ar.cb c.cJ).lk.r key with
 | some row=>if h:∃ cs,cS X (c.O γ) w key row (c.rv γ w args key) cs then Classical.choose h else []
 | none=>[]
noncomputable def bL.gh (c:bL) (X:Ctx) (γ:Gh) (w:World) (args:List Value):Gh:=⟨c.O γ,c.rv γ w args,c.cv X γ w args,fun k=>γ.vb (c.ar.κ.getD k 0)⟩
structure bL.Fact (c:bL):Prop where
 nd:(keys c.H).Nodup
 hk:∀ r k d,(r,(k,d))∈c.H->c.rb.r r=some (k,d)
 fz:∀ r,r∈c.ar.fz->c.rb.r r=some (0,3)
 mW:∀ r,c.mW r->lk c.H r=none
 fzH:∀ r,r∈c.ar.fz->lk c.H r=none
 kH:keys c.H=c.ar.gone++(c.ow++c.ar.io)
theorem bL.Ok.fact {c:bL} (h:c.Ok):c.Fact:=by
 have ha:=sb c.iZ c.g.am [] 0 c.ar h.args
 have hh:=h.hand
 simp only [Lk.s9] at hh
 cases ho:c.m.eH c.g.vl c.ar.κ with
 | none=>simp [ho] at hh
 | some p =>
  obtain ⟨ow,b⟩:=p
  simp only [ho] at hh
  have vN:=(my (k0:=0) ho).1
  revert hh; split
  ·rename_i n1 n2 n3 n4
   intro hh; simp only [zA,zG] at hh
   obtain ⟨e1,e2⟩:=hh
   rw [e1] at n1 n2 n3 n4 vN
   rw [e2] at n4
   have kH:keys c.H=c.ar.gone++(c.ow++c.ar.io):=by
    simp only [bL.H,bx,ha.gone,ha.io,vN]
   have nd:(keys c.H).Nodup:=by rw [kH]; exact gH.1 n1
   have no:∀ r,r∉c.ar.gone++(c.ow++c.ar.io)->lk c.H r=none:=fun r hr=>cH.2 (by rw [kH]; exact hr)
   have fzH:∀ r,r∈c.ar.fz->lk c.H r=none:=fun r hr=>no r (eI.1 n2 r hr)
   refine ⟨nd,fun r k d hm=> ?_,fun r hr=> ?_,fun r hr=> ?_,fzH,kH⟩
   ·simp only [bL.rb,gg nd hm]
   ·simp only [bL.rb,fzH r hr,if_pos hr]
   ·rcases hr with hr | hr
    ·exact no r (eI.1 n3 r hr)
    ·exact no r (eI.1 n4 r hr)
  ·intro hh; cases hh
theorem xQ {r ow:Nat} {o:Option Ow} (h:R5 r ow o):o=none\/o=some .fz\/(o=some (.r r)/\eu ow=true)\/∃ e c,o=some (.n r e c)/\ow=5:=by
 rcases h with h | ⟨e,c,h⟩
 ·revert h; simp only [dN]; split
  ·rename_i ho; exact fun h=> .inr (.inr (.inl ⟨h,ho⟩))
  ·split
   ·exact fun h=> .inr (.inl h)
   ·exact fun h=>h.elim .inl (fun h=> .inr (.inl h))
 ·revert h; simp only [dP]; split
  ·exact fun h=> .inr (.inr (.inr ⟨e,c,h,rfl⟩))
  ·exact fun h=> .inr (.inl h)
  ·exact fun h=> .inr (.inl h)
  ·exact fun h=>h.elim .inl (fun h=> .inr (.inl h))
theorem bL.Fact.Uq {c:bL} (hf:c.Fact) {r:Nat} (hb:c.mW r) {row:Row} (hr:c.m.r r=some row) {o:Option Ow} (h:R5 r row.ow o):In .mW (o.bind c.rb.f):=by
 have key:eu row.ow=true->c.rb.r r=some (0,3)\/c.rb.r r=some (0,1):=by
  intro ho
  by_cases hz:r∈c.ar.fz
  ·exact .inl (hf.fz r hz)
  ·right; simp only [bL.rb,hf.mW r hb,if_neg hz,if_pos (⟨hb,row,hr,ho⟩:c.mW r/\∃ row,c.m.r r=some row/\eu row.ow=true)]
 rcases xQ h with rfl | rfl | ⟨rfl,ho⟩ | ⟨e,c',rfl,h5⟩
 ·exact .inl rfl
 ·exact .inr rfl
 ·show In .mW (c.rb.f (.r r))
  rcases key ho with h1 | h1<;>simp only [Rb.f,h1]
  ·exact .inr rfl
  ·exact .inl rfl
 ·show In .mW (c.rb.f (.n r e c'))
  rcases key (by rw [h5]; rfl) with h1 | h1<;>simp only [Rb.f,h1]
  ·exact .inr rfl
  ·exact .inl rfl
theorem cS.nil (X:Ctx) (O:OM) (w:World) (k:Nat) (τ:Ty) (d:Nat):cS X O w k ⟨τ,[],d⟩ (.slice none 0 0) []:=by
 refine ⟨?_,fun e c ct he=>by simp at he⟩
 show Sl X O w (dN k d) τ _ _ _
 cases dN k d with
 | own t=>exact ⟨World.ownsRow_nil w 0 _ _,by simp [Value.ownBlock]⟩
 | _=>exact ⟨by simp,.inl ⟨rfl,rfl⟩⟩
theorem J8 {c:Cv} {τ:Ty} {xs:List (El τ)} (h:m.ct c=some (.l τ xs)):(m.vw c).ct=some (.l τ xs):=by
 cases c<;>first | exact h | (simp [Lk.ct] at h; done)
theorem bL.Fact.cell {c:bL} (hf:c.Fact) (hm:Le c.m S.lk) (hR:Rel X S.lk γ w) {x:Cv} {u:Value} (hx:bp S.lk γ x u) {τ:Ty} {xs:List (El τ)} (dg:c.m.ct x=some (.l τ xs)) {key d:Nat}
  (h:(d=1/\∀ r,x.row=some r->c.mW r)\/(rL d=true/\OF c.m d x/\∀ r,x= .sw r->(r,(key,d))∈c.H\/(d=3/\r∈c.ar.fz))) :
  ∃ cs,cS X (c.O γ) w key ⟨τ,xs,d⟩ u cs:=by
 rcases h with ⟨rfl,hb⟩ | ⟨hd,ho,hh⟩
 ·obtain ⟨cs,hv⟩:=EH (A:=fun g=>In .mW (c.O γ g)) hm hR hx (fun r row g hr Nm hi=>hf.Uq (hb r Nm) hr hi) (J8 dg)
  exact ⟨cs,hv.Ix⟩
 ·rcases ho with ⟨r,row,rfl,hr,hle⟩ | ⟨σ,rfl⟩ | ⟨b,rfl⟩ | ⟨k,n,rfl⟩ | ⟨s,rfl⟩
  ·simp only [Lk.ct,Lk.vw,hr,Vw.ct,zA,Ct.l.injEq] at dg
   obtain ⟨rfl,dg⟩:=dg; cases dg
   obtain ⟨_,rfl⟩:=hx
   rcases hh r rfl with h1 | ⟨rfl,h1⟩
   ·exact ⟨γ.cv r,(hR.rs r row (hm.r r row hr)).relabel (a:=c.rb) (fun _=>hf.hk r key d h1) hle (fun g o hg _=>⟨hg,rfl⟩)⟩
   ·have:=(hR.rs r row (hm.r r row hr)).relabel (a:=c.rb) (O':=c.O γ) (fun _=>hf.fz r h1) hle (fun g o hg _=>⟨hg,rfl⟩)
    exact ⟨γ.cv r,this.top,this.rA⟩
  ·simp only [Lk.ct,Lk.vw,Vw.ct,zA,Ct.l.injEq] at dg
   obtain ⟨rfl,dg⟩:=dg; cases dg
   have hx:u= .slice none 0 0:=hx
   subst hx
   exact ⟨[],cS.nil _ _ _ _ _ _⟩
  ·simp [Lk.ct] at dg
  ·simp [Lk.ct] at dg
  ·simp [Lk.ct] at dg
theorem lC.vH {m:Lk} {γ:Gh}:∀ {l:List AV} {u:List Value},l.length=u.length->(∀ (i:Nat) (x:AV) (v:Value),l[i]? =some x->u[i]? =some v->bn m γ x v)->lC m γ l u
 | [],[],_,_=> .nil
 | [],_::_,h,_=>by simp at h
 | _::_,[],h,_=>by simp at h
 | x::l,v::u,hl,h=> .cons (h 0 x v rfl rfl) (lC.vH (by simpa using hl) fun i x v hx hv=>h (i+1) x v hx hv)
theorem lC.get {m:Lk} {γ:Gh} {l:List AV} {u:List Value} (h:lC m γ l u):l.length=u.length/\∀ (i:Nat) (x:AV),l[i]? =some x->∃ v,u[i]? =some v/\bn m γ x v:=by
 induction h with
 | nil=>simp
 | cons hx _ ih =>
  refine ⟨by simp [ih.1],fun i y hy=> ?_⟩
  cases i with
  | zero=>simp at hy; subst hy; exact ⟨_,rfl,hx⟩
  | succ i=>simpa using ih.2 i y (by simpa using hy)
theorem zY {c:Cv} {y:Ct} (h:m.ct c=some y) (hu:y≠ .u) (hl:∀ τ xs,y≠ .l τ xs):bp M γ c=fun v=>v=gx y:=by
 cases c with
 | un=>simp [Lk.ct] at h; exact absurd h.symm hu
 | b x=>simp [Lk.ct] at h; subst h; rfl
 | i k n=>simp [Lk.ct] at h; subst h; rfl
 | s x=>simp [Lk.ct] at h; subst h; rfl
 | _ =>
  exfalso; simp only [Lk.ct] at h
  revert h; cases m.vw _<;>simp [Vw.ct]
  all_goals (intro h; exact hl _ _ h.symm)
theorem yC {e0:Lk} {γ0:Gh} (hR:Rel X M γ w) {c:Cv} {v:Value} (hx:bp M γ c v) {y y':Ct} (h:m.ct c=some y) (hy:y'=y\/y'=mQ y) {key:Nat}
  (hl:∀ τ xs,y'= .l τ xs->(∃ row,e0.r key=some row)/\v=γ0.rv key):bp e0 γ0 (tP key y') v:=by
 cases y' with
 | u=>exact hx.one hR
 | l τ xs=>exact hl τ xs rfl
 | b x =>
  have:y= .b x:=by rcases hy with h | h; exact h.symm; cases y<;>simp_all [mQ]
  subst this
  have:=zY (M:=M) (γ:=γ) h (by simp) (by simp)
  rw [this] at hx; exact hx
 | i k n =>
  have:y= .i k n:=by rcases hy with h | h; exact h.symm; cases y<;>simp_all [mQ]
  subst this
  have:=zY (M:=M) (γ:=γ) h (by simp) (by simp)
  rw [this] at hx; exact hx
 | s x =>
  have:y= .s x:=by rcases hy with h | h; exact h.symm; cases y<;>simp_all [mQ]
  subst this
  have:=zY (M:=M) (γ:=γ) h (by simp) (by simp)
  rw [this] at hx; exact hx
theorem Eg (hR:Rel X M γ w) {v:AV} {x:AC} {cs:List Cv} {ys:List Ct} (h:V6 v x cs ys) {u:Value} (hv:bn M γ v u):(v= .c .un/\cs=[.un])\/b9 M γ cs u.cells.toList:=by
 rcases h with ⟨rfl,rfl⟩ | ⟨c,y,rfl,rfl,rfl,rfl⟩
 ·exact .inr (pR hR hv rfl)
 ·by_cases hu:c= .un
  ·subst hu; exact .inl ⟨rfl,rfl⟩
  ·right; exact pR hR hv (by cases c<;>first | rfl | exact absurd rfl hu)
theorem bL.EY (c:bL) (γ:Gh) (w:World) (args:List Value) (P j:Nat) (hj:j<64) (hP:P<=1000):c.rv γ w args (100000+P*64+j)=cellAt (args.getD P undef) j:=by
 have h1:100000+P*64+j<200000:=by omega
 have h2:(100000+P*64+j-100000)/64=P:=by omega
 have h3:(100000+P*64+j-100000) % 64=j:=by omega
 simp only [bL.rv,if_pos h1,h2,h3]
theorem bL.NG (c:bL) (γ:Gh) (w:World) (args:List Value) (P:Nat) (hP:P<=1000):c.rv γ w args (200000+P*64)=args.getD P undef:=by
 have h1:¬ 200000+P*64<200000:=by omega
 have h2:200000+P*64<300000:=by omega
 have h3:(200000+P*64-200000)/64=P:=by omega
 simp only [bL.rv,if_neg h1,if_pos h2,h3]
theorem bL.Ek (c:bL) (γ:Gh) (w:World) (args:List Value) (k j v:Nat) (hj:j<64) (hk:c.ar.κ[k]? =some v) {cur:Array Value} {e:TypeId} {fz:Nat×Nat} (hc:w.heap[γ.vb v]? =some (.cells cur e fz)) :
  c.rv γ w args (300000+k*64+j)=cur.toList.getD j undef:=by
 have h1:¬ 300000+k*64+j<200000:=by omega
 have h2:¬ 300000+k*64+j<300000:=by omega
 have h3:(300000+k*64+j-300000)/64=k:=by omega
 have h4:(300000+k*64+j-300000) % 64=j:=by omega
 have h5:c.ar.κ.getD k 0=v:=by simp [List.getD,hk]
 simp only [bL.rv,if_neg h1,if_neg h2,h3,h4,h5,hc]
structure bL.HQ (c:bL) (X:Ctx) (S:St) (γ:Gh) (w:World) (args:List Value):Prop where
 ok:c.Ok
 le:Le c.m S.lk
 rel:Rel X S.lk γ w
 top:∀ g,w.heap.size<=g->γ.O g=none
 args:lC S.lk γ c.iZ args
theorem bL.HQ.arg {c:bL} {args:List Value} (h:c.HQ X S γ w args) {P:Nat} {x:AC} (hx:c.ar.cb[P]? =some x):∃ v u,c.iZ[P]? =some v/\args[P]? =some u/\args.getD P undef=u/\bn S.lk γ v u/\P<=1000 /\
  Af c.m c.ar.κ (fun r k d=>(r,(k,d))∈c.H) (·∈c.ar.fz) (·∈c.ar.mW) (c.ar.lr=true) (md c.g.am P) P v x:=by
 have ha:=sb c.iZ c.g.am [] 0 c.ar h.ok.args
 have hP:P<c.iZ.length:=by have:=(zU.1 hx).1; rw [ha.len] at this; exact this
 have hv:c.iZ[P]? =some c.iZ[P]:=List.getElem?_eq_getElem hP
 obtain ⟨u,hu,hr⟩:=h.args.get.2 P _ hv
 obtain ⟨x',zm,hA⟩:=ha.arg P _ hv
 rw [hx] at zm; cases zm
 refine ⟨_,u,hv,hu,by simp [List.getD,hu],hr,by have:=h.ok.len; omega,?_⟩
 rw [Nat.zero_add] at hA
 refine hA.mono (fun _ _ h=>h) (fun r k d hg=> ?_) (fun _ h=>h) (fun _ h=>h) id
 simp only [bL.H,zH] at hg ⊢
 rcases hg with hg | hg
 ·exact .inl hg
 ·exact .inr (.inr hg)
theorem l9 {d:Nat} (h:rL d=true):d=3\/d=4\/d=5:=by revert h; simp only [rL]; split<;>simp_all
theorem Pc {d:Nat} (h:rL d=true):kd 0 d=d:=by rcases l9 h with rfl | rfl | rfl<;>rfl
theorem bL.HQ.row {c:bL} {args:List Value} (h:c.HQ X S γ w args) {key:Nat} {row:Row} (hr:(entry c.g c.ar.cb c.cJ).lk.r key=some row) :
  ∃ cs,cS X (c.O γ) w key row (c.rv γ w args key) cs:=by
 have hf:=h.ok.fact
 rcases JR hr with ⟨P,x,hx,hA⟩ | ⟨k,l,j,τ,xs,hl,hj,rfl,rfl⟩
 ·obtain ⟨v,u,hv,hu,Qx,vP,hP,Zn⟩:=h.arg hx
  rcases hA with ⟨j,τ,xs,hj,rfl,rfl⟩ | ⟨τ,xs,rfl,rfl,rfl⟩
  ·cases Zn with
   | val h1 h2 h3 h4 =>
    rename_i cs ys ys'
    have P7:acl x=ys':=by rcases h1 with ⟨_,rfl⟩ | ⟨_,_,_,rfl,_,rfl⟩<;>rfl
    rw [P7] at hj
    rcases h4 with ⟨hd,rfl,hb,_⟩ | ⟨hd,rfl⟩ | ⟨hd,rfl,ho,hz,hg,_⟩
    ·obtain ⟨cc,hc,dg⟩:=(kq h3).2 j _ hj
     rcases Eg h.rel h1 vP with ⟨rfl,rfl⟩ | Ce
     ·cases j<;>simp at hc; subst hc; simp [Lk.ct] at dg
     ·obtain ⟨uv,HM,z7⟩:=Ce.get hc
      have No:j<64:=by have:=(zU.1 hc).1; omega
      rw [c.EY γ w args P j No hP,Qx,show cellAt u j=uv by simp [cellAt,List.getD,HM]]
      rw [hd]
      exact hf.cell h.le h.rel z7 dg (.inl ⟨rfl,fun r hr=> .inl (hb cc (List.mem_of_getElem? hc) r hr)⟩)
    ·rw [List.getElem?_map] at hj
     cases hy:ys[j]? with
     | none=>rw [hy] at hj; cases hj
     | some y=>rw [hy] at hj; cases y<;>simp [mQ] at hj
    ·obtain ⟨cc,hc,dg⟩:=(kq h3).2 j _ hj
     rcases Eg h.rel h1 vP with ⟨rfl,rfl⟩ | Ce
     ·cases j<;>simp at hc; subst hc; simp [Lk.ct] at dg
     ·obtain ⟨uv,HM,z7⟩:=Ce.get hc
      have No:j<64:=by have:=(zU.1 hc).1; omega
      rw [c.EY γ w args P j No hP,Qx,show cellAt u j=uv by simp [cellAt,List.getD,HM],Pc hd]
      refine hf.cell h.le h.rel z7 dg (.inr ⟨hd,ho cc (List.mem_of_getElem? hc),fun r e=> ?_⟩)
      by_cases K7:md c.g.am P=3
      ·exact .inr ⟨K7,hz K7 cc (List.mem_of_getElem? hc) r e⟩
      ·exact .inl (hg K7 j r (by rw [hc,e]))
   | io h1 h2 h3 h4=>simp [acl] at hj
   | _=>simp [acl] at hj
  ·cases Zn with
   | io h0 h1 h2 h3 =>
    rename_i r
    rw [c.NG γ w args P hP,Qx]
    have z7:bp S.lk γ (.sw r) u:=vP
    exact hf.cell h.le h.rel z7 (by simp [Lk.ct,Lk.vw,h2,Vw.ct]) (.inr ⟨rfl,.inl ⟨r,_,rfl,h2,rfl⟩,fun s e=>by cases e; exact .inl h3⟩)
   | val h1=>rcases h1 with ⟨_,h⟩ | ⟨_,_,_,h,_⟩<;>cases h
 ·have VA:=we h.ok.uw
  have hk:k<c.ar.κ.length:=by have:=(zU.1 hl).1; rw [VA.1] at this; exact this
  have HW:c.ar.κ[k]? =some c.ar.κ[k]:=List.getElem?_eq_getElem hk
  obtain ⟨cs,l',iW,dg,yw,VD⟩:=VA.2 k _ HW
  rw [hl] at yw; cases yw
  obtain ⟨cc,hc,C1⟩:=(kq dg).2 j _ hj
  obtain ⟨_,cur,e,mU,Ce⟩:=h.rel.vs _ cs (h.le.v _ _ iW)
  obtain ⟨uv,HM,z7⟩:=Ce.get hc
  have No:j<64:=by have:=(zU.1 hc).1; omega
  rw [c.Ek γ w args k j _ No HW mU,show cur.toList.getD j undef=uv by simp only [List.getD,HM]; rfl]
  have hh:=h.ok.hand
  simp only [Lk.s9] at hh
  cases ho:c.m.eH c.g.vl c.ar.κ with
  | none=>simp [ho] at hh
  | some p =>
   obtain ⟨ow,b⟩:=p
   have hb:b=c.b:=by
    simp only [ho] at hh
    revert hh; split
    ·intro hh; simp only [zA,zG] at hh; exact hh.2
    ·intro hh; cases hh
   obtain ⟨cs2,Qj,Wp⟩:=(my (k0:=0) ho).2 k _ HW
   rw [iW] at Qj; cases Qj
   have Wp:=Wp j cc hc
   rw [Nat.zero_add] at Wp
   have hH:∀ r x d,(r,(x,d))∈n5 c.m 0 c.g.vl c.ar.κ->(r,(x,d))∈c.H:=fun r x d hm=>List.mem_append_right _ (List.mem_append_left _ hm)
   rcases Wp with ⟨hd,QG⟩ | ⟨hd,⟨r,row,rfl,e2,e3,e4,e5⟩ | ⟨σ,rfl⟩⟩
   ·have:kd 0 (md (Mj c.g.vl k) j)=1:=by rcases hd with h | h<;>rw [h]<;>rfl
    rw [this]
    exact hf.cell h.le h.rel z7 C1 (.inl ⟨rfl,fun r hr=> .inr (hb▸QG r hr)⟩)
   ·rw [Pc hd]
    exact hf.cell h.le h.rel z7 C1 (.inr ⟨hd,.inl ⟨r,row,rfl,e2,e3⟩,fun s e=>by cases e; exact .inl (hH _ _ _ e5)⟩)
   ·rw [Pc hd]
    exact hf.cell h.le h.rel z7 C1 (.inr ⟨hd,.inr (.inl ⟨σ,rfl⟩),fun s e=>by cases e⟩)
theorem bL.HQ.pre {c:bL} {args:List Value} (h:c.HQ X S γ w args):Ti X c.g c.ar.cb c.cJ (c.gh X γ w args) w args:=by
 have hf:=h.ok.fact
 have ha:=sb c.iZ c.g.am [] 0 c.ar h.ok.args
 have VA:=we h.ok.uw
 refine ⟨⟨fun k cs hk=> ?_,fun key row hr=> ?_⟩,fun b hb=> ?_,lC.vH ?_ fun P x u hx hu=> ?_⟩
 ·rw [Ka] at hk
  cases hl:c.cJ[k]? with
  | none=>rw [hl] at hk; cases hk
  | some l =>
   rw [hl] at hk; simp only [Option.map_some,zA] at hk; subst hk
   have hkl:k<c.ar.κ.length:=by have:=(zU.1 hl).1; rw [VA.1] at this; exact this
   have HW:c.ar.κ[k]? =some c.ar.κ[k]:=List.getElem?_eq_getElem hkl
   obtain ⟨cs,l',iW,dg,yw,VD⟩:=VA.2 k _ HW
   rw [hl] at yw; cases yw
   obtain ⟨hO,cur,e,mU,Ce⟩:=h.rel.vs _ cs (h.le.v _ _ iW)
   have FF:(c.gh X γ w args).vb k=γ.vb c.ar.κ[k]:=by show γ.vb (c.ar.κ.getD k 0)=_; simp [List.getD,HW]
   rw [FF]
   have ach:mZ c.ar.κ[k] 0 c.ar.κ=some k:=by
    cases hi:mZ c.ar.κ[k] 0 c.ar.κ with
    | none=>exact absurd (List.getElem_mem hkl) (ub hi)
    | some k' =>
     have h1:=(sN hi).2
     have HN:c.ar.κ.Nodup:=ha.nd (by simp)
     have h2:k'-0<c.ar.κ.length:=(zU.1 h1).1
     have:=(List.getElem?_inj h2 HN).1 (h1.trans HW.symm)
     rw [← this]; simp
   refine ⟨?_,cur,e,mU,?_⟩
   ·show (γ.O (γ.vb c.ar.κ[k])).bind c.rb.f=some (.v k)
    rw [hO]
    show c.rb.f (.v c.ar.κ[k])=_
    simp only [Rb.f,bL.rb,ach]
   ·have hlen:=(kq dg).1
    have Y2:=Ce.length
    apply b9.vH
    ·rw [sM,hlen]; exact Y2
    ·intro j x v hx hv
     rw [B0] at hx
     cases hy:l[j]? with
     | none=>rw [hy] at hx; cases hx
     | some y =>
      rw [hy] at hx; simp only [Option.map_some,zA,Nat.add_zero] at hx; subst hx
      obtain ⟨cc,hc,C1⟩:=(kq dg).2 j _ hy
      obtain ⟨uv,HM,z7⟩:=Ce.get hc
      rw [hv] at HM; cases HM
      have No:j<64:=by have:=(zU.1 hc).1; omega
      refine yC h.rel z7 C1 (.inl rfl) fun τ xs e1=>⟨uk (.inr ⟨k,l,j,τ,xs,hl,by rw [hy,e1],rfl,rfl⟩),?_⟩
      show v=c.rv γ w args (300000+k*64+j)
      rw [c.Ek γ w args k j _ No HW mU]; simp only [List.getD,hv]; rfl
 ·have hex:=h.row hr
  show cS X (c.O γ) w key row (c.rv γ w args key) (c.cv X γ w args key)
  have:c.cv X γ w args key=Classical.choose hex:=by simp only [bL.cv,hr,dif_pos hex]
  rw [this]; exact Classical.choose_spec hex
 ·show (γ.O b).bind c.rb.f=none
  rw [h.top b hb]; rfl
 ·have WA:(rN c.g.am 0 c.ar.cb).1.length=c.ar.cb.length:=by
   have h1:=wM c.ar.cb c.g.am 0
   apply Nat.le_antisymm
   ·apply Nat.not_lt.1; intro fP
    have:=h1 c.ar.cb.length
    rw [List.getElem?_eq_getElem fP] at this; simp at this
   ·apply Nat.not_lt.1; intro fP
    have:=h1 (rN c.g.am 0 c.ar.cb).1.length
    rw [List.getElem?_eq_none (Nat.le_refl _),List.getElem?_eq_getElem fP] at this; simp at this
  rw [WA,ha.len]; exact h.args.get.1
 ·rw [wM] at hx
  cases hy:c.ar.cb[P]? with
  | none=>rw [hy] at hx; cases hx
  | some y =>
   rw [hy] at hx; simp only [Option.map_some,zA,Nat.zero_add] at hx; subst hx
   obtain ⟨v,u',hv,oT,Qx,vP,hP,hA⟩:=h.arg hy
   rw [hu] at oT; cases oT
   have CX:∀ i k,c.ar.κ[i]? =some k->(∃ cs,(entry c.g c.ar.cb c.cJ).lk.v i=some cs)/\(c.gh X γ w args).vb i=γ.vb k:=by
    intro i k hk
    obtain ⟨cs,l,iW,dg,hl,_⟩:=VA.2 i k hk
    exact ⟨⟨_,by rw [Ka,hl]; rfl⟩,by show γ.vb (c.ar.κ.getD i 0)=_; simp [List.getD,hk]⟩
   have hA0:=hA
   cases hA with
   | ptr h0 h1 =>
    rename_i k i
    obtain ⟨h2,h3⟩:=CX i k h1
    obtain ⟨_,hpv⟩:=vP
    exact ⟨h2,by rw [h3]; exact hpv⟩
   | fn h0 h1 h2 =>
    rename_i f caps ks
    obtain ⟨_,Qn⟩:=vP
    refine ⟨fun i hi=> ?_,?_⟩
    ·obtain ⟨n,hn⟩:=List.mem_iff_getElem?.1 hi
     obtain ⟨vv,_,h4⟩:=h2 n i hn
     exact (CX i vv h4).1
    ·rw [Qn]; congr 2
     apply List.ext_getElem?
     intro n
     simp only [List.getElem?_map]
     cases hn:ks[n]? with
     | none =>
      have:caps[n]? =none:=by
       apply List.getElem?_eq_none
       rw [← h1]
       exact Nat.not_lt.1 fun fP=>by rw [List.getElem?_eq_getElem fP] at hn; cases hn
      rw [this]; rfl
     | some i =>
      obtain ⟨vv,h3,h4⟩:=h2 n i hn
      rw [h3]
      simp only [Option.map_some]
      rw [(CX i vv h4).2]
   | io h0 h1 h2 h3 =>
    rename_i r τ xs
    show bp _ _ (.sw (200000+P*64)) u
    refine ⟨uk (.inl ⟨P,_,hy,.inr ⟨τ,xs,rfl,rfl,rfl⟩⟩),?_⟩
    show u=c.rv γ w args (200000+P*64)
    rw [c.NG γ w args P hP,Qx]
   | al h0 h8 h1 h2 h3 =>
    rename_i r vv cc cs
    show bp _ _ (.sw (300000+0*64+cc)) u
    obtain ⟨cs',l,iW,dg,hl,VD⟩:=VA.2 0 vv h1
    rw [h2] at iW; cases iW
    have Nj:=(kq dg).1
    have afO:cc<cs.length:=(zU.1 h3).1
    have MF:l[cc]? =some (l[cc]'(by omega)):=List.getElem?_eq_getElem (by omega)
    obtain ⟨c3,ja,S2⟩:=(kq dg).2 cc _ MF
    rw [h3] at ja; cases ja
    obtain ⟨_,cur,e,mU,Ce⟩:=h.rel.vs _ cs (h.le.v _ _ h2)
    obtain ⟨uv,HM,z7⟩:=Ce.get h3
    have KO:u=γ.rv r:=vP.2
    have QM:uv=γ.rv r:=z7.2
    obtain ⟨row,bo⟩:∃ row,c.m.r r=some row:=by
     simp only [Lk.ct,Lk.vw] at S2
     cases hr:c.m.r r with
     | none=>simp [hr,Vw.ct] at S2
     | some row=>exact ⟨row,rfl⟩
    have fP:l[cc]'(by omega)= .l row.τ row.xs:=by
     simp only [Lk.ct,Lk.vw,bo,Vw.ct,zA] at S2; exact S2.symm
    refine ⟨uk (.inr ⟨0,l,cc,row.τ,row.xs,hl,by rw [MF,fP],rfl,rfl⟩),?_⟩
    show u=c.rv γ w args (300000+0*64+cc)
    rw [c.Ek γ w args 0 cc _ (by omega) h1 mU,KO,← QM]; simp only [List.getD,HM]; rfl
   | val h1 h2 h3 h4 =>
    rename_i cs ys ys'
    have eD:∀ (j:Nat) (y':Ct),ys'[j]? =some y'->∃ (cc:Cv) (y:Ct),cs[j]? =some cc/\c.m.ct cc=some y/\(y'=y\/y'=mQ y):=by
     intro j y' hj
     have main:∀ (y0:Ct),ys[j]? =some y0->∃ cc,cs[j]? =some cc/\c.m.ct cc=some y0:=fun y0 h=>(kq h3).2 j y0 h
     rcases h4 with ⟨_,rfl,_⟩ | ⟨_,rfl⟩ | ⟨_,rfl,_⟩
     ·obtain ⟨cc,a,b⟩:=main _ hj; exact ⟨cc,_,a,b,.inl rfl⟩
     ·rw [List.getElem?_map] at hj
      cases QI:ys[j]? with
      | none=>rw [QI] at hj; cases hj
      | some y0 =>
       rw [QI] at hj; simp only [Option.map_some,zA] at hj
       obtain ⟨cc,a,b⟩:=main _ QI; exact ⟨cc,y0,a,b,.inr hj.symm⟩
     ·obtain ⟨cc,a,b⟩:=main _ hj; exact ⟨cc,_,a,b,.inl rfl⟩
    have hlen:ys'.length=cs.length:=by
     have:=(kq h3).1
     rcases h4 with ⟨_,rfl,_⟩ | ⟨_,rfl⟩ | ⟨_,rfl,_⟩
     ·exact this
     ·simpa using this
     ·exact this
    have P7:acl y=ys':=by rcases h1 with ⟨_,rfl⟩ | ⟨_,_,_,rfl,_,rfl⟩<;>rfl
    have one:∀ (j:Nat) (cc:Cv) (y y':Ct) (uv:Value),cs[j]? =some cc->c.m.ct cc=some y->ys'[j]? =some y'->(y'=y\/y'=mQ y)->bp S.lk γ cc uv->cellAt u j=uv ->
      bp (entry c.g c.ar.cb c.cJ).lk (c.gh X γ w args) (tP (100000+P*64+j) y') uv:=by
     intro j cc y0 y' uv hc dg QI Wr z7 QQ
     have No:j<64:=by have:=(zU.1 hc).1; omega
     refine yC h.rel z7 dg Wr fun τ xs e1=>⟨uk (.inl ⟨P,y,hy,.inl ⟨j,τ,xs,by rw [P7,QI,e1],rfl,rfl⟩⟩),?_⟩
     show uv=c.rv γ w args (100000+P*64+j)
     rw [c.EY γ w args P j No hP,Qx,QQ]
    rcases h1 with ⟨rfl,rfl⟩ | ⟨c1,y1,rfl,rfl,rfl,rfl⟩
    ·obtain ⟨us,rfl,Ce⟩:=vP
     refine ⟨us,rfl,b9.vH (by rw [sM,hlen]; exact Ce.length) fun j x uv Wv HM=> ?_⟩
     rw [B0] at Wv
     cases QI:ys'[j]? with
     | none=>rw [QI] at Wv; cases Wv
     | some y' =>
      rw [QI] at Wv; simp only [Option.map_some,zA,Nat.add_zero] at Wv; subst Wv
      obtain ⟨cc,y0,hc,dg,Wr⟩:=eD j y' QI
      obtain ⟨uv',X1,z7⟩:=Ce.get hc
      rw [HM] at X1; cases X1
      exact one j cc y0 y' uv hc dg QI Wr z7 (by simp [cellAt,Value.cells,List.getD,HM])
    ·obtain ⟨cc,y0,hc,dg,Wr⟩:=eD 0 y1 rfl
     simp only [List.getElem?_cons_zero,zA] at hc; subst hc
     by_cases FJ:c1= .un
     ·subst FJ
      simp only [Lk.ct,zA] at dg; subst dg
      have:y1= .u:=by rcases Wr with h | h<;>simpa [mQ] using h
      subst this; exact trivial
     ·have z7:=bn.to vP FJ
      have h1c:=D4 (z7.one h.rel)
      exact bn.of (one 0 c1 y0 y1 u rfl dg rfl Wr z7 (by simp [cellAt,h1c]))
end Go.Soft
namespace Go.Soft
open Go
variable {X:Ctx} {m M:Lk} {γ γ':Gh} {w w':World} {ρ:Operand->Value} {S:St} {δ:Dl}
inductive ei (X:Ctx) (I:Prop) (A:Nat->Prop) (O:OM) (w:World):List (Nat×Row)->List (Nat×(Value×List Value))->List (Nat×(Nat×Nat))->Prop
 | nil:ei X I A O w [] [] []
 | own {k1 k:Nat} {row:Row} {v:Value} {cs:List Value} {rs:List (Nat×Row)} {V:List (Nat×(Value×List Value))} {G:List (Nat×(Nat×Nat))}:cS X O w k1 row v cs->(row.ow=3\/row.ow=4\/row.ow=5) ->
   ei X I A O w rs V G->ei X I A O w ((k,row)::rs) ((k,(v,cs))::V) ((k1,(k,row.ow))::G)
 | emp {k d:Nat} {τ:Ty} {rs:List (Nat×Row)} {V:List (Nat×(Value×List Value))} {G:List (Nat×(Nat×Nat))}:ei X I A O w rs V G ->
   ei X I A O w ((k,⟨τ,[],d⟩)::rs) ((k,(.slice none 0 0,[]))::V) G
 | lr {k:Nat} {τ:Ty} {xs:List (El τ)} {v:Value} {cs:List Value} {rs:List (Nat×Row)} {V:List (Nat×(Value×List Value))} {G:List (Nat×(Nat×Nat))}:I->vO A w τ xs v cs->ei X I A O w rs V G ->
   ei X I A O w ((k,⟨τ,xs,1⟩)::rs) ((k,(v,cs))::V) G
section
variable {I:Prop} {A:Nat->Prop} {O O':OM} {rs rs':List (Nat×Row)} {V V':List (Nat×(Value×List Value))} {G G':List (Nat×(Nat×Nat))}
theorem ei.keys (h:ei X I A O w rs V G):keys V=keys rs:=by
 induction h with
 | nil=>rfl
 | own _ _ _ ih=>simp [Soft.keys,ih]
 | emp _ ih=>simp [Soft.keys,ih]
 | lr _ _ _ ih=>simp [Soft.keys,ih]
theorem ei.append (h:ei X I A O w rs V G) (h':ei X I A O w rs' V' G'):ei X I A O w (rs++rs') (V++V') (G++G'):=by
 induction h with
 | nil=>exact h'
 | own a b _ ih=>exact .own a b ih
 | emp _ ih=>exact .emp ih
 | lr a b _ ih=>exact .lr a b ih
theorem ei.row (h:ei X I A O w rs V G) {a:Rb} (hG:∀ p∈G,a.r p.1=some p.2)
  (gN:∀ g o r ow,w.heap[g]? =some o->(ow=3\/ow=4\/ow=5)->R5 r ow (O g)->O' g=(O g).bind a.f) (S0:I->∀ g o,w.heap[g]? =some o->A g->In .mW (O' g)) :
  ∀ k row,lk rs k=some row->∃ v cs,lk V k=some (v,cs)/\cS X O' w k row v cs:=by
 induction h with
 | nil=>intro k row h; simp [lk] at h
 | own hr ho _ ih =>
  rename_i k1 k0 row0 v cs _ _ _ _
  intro k row h
  simp only [lk] at h ⊢
  cases hk:Nat.beq k0 k with
  | false=>simp only [hk] at h ⊢; exact ih (fun p hp=>hG p (zJ _ hp)) k row h
  | true =>
   simp only [hk,zA] at h ⊢; subst h
   have:=aF hk; subst this
   refine ⟨v,cs,rfl,?_⟩
   exact hr.relabel (a:=a) (fun _=>hG _ zO) (NL (by omega)) (fun g o hg hi=>⟨hg,gN g o k1 _ hg ho hi⟩)
 | emp _ ih =>
  rename_i k0 d τ _ _ _ _
  intro k row h
  simp only [lk] at h ⊢
  cases hk:Nat.beq k0 k with
  | false=>simp only [hk] at h ⊢; exact ih hG k row h
  | true =>
   simp only [hk,zA] at h ⊢; subst h
   exact ⟨_,_,rfl,cS.nil _ _ _ _ _ _⟩
 | lr hI hv _ ih =>
  rename_i k0 τ xs v cs _ _ _ _
  intro k row h
  simp only [lk] at h ⊢
  cases hk:Nat.beq k0 k with
  | false=>simp only [hk] at h ⊢; exact ih hG k row h
  | true =>
   simp only [hk,zA] at h ⊢; subst h
   exact ⟨_,_,rfl,(hv.mono fun g o hg ha=>⟨hg,S0 hI g o hg ha⟩).Ix⟩
end
structure Fits (m':Lk) (γ':Gh) (rs:List (Nat×Row)) (V:List (Nat×(Value×List Value))):Prop where
 r:∀ k row,(k,row)∈rs->∃ row,m'.r k=some row
 v:∀ k v cs,(k,(v,cs))∈V->γ'.rv k=v
theorem Fits.left {m':Lk} {rs rs':List (Nat×Row)} {V V':List (Nat×(Value×List Value))} (h:Fits m' γ' (rs++rs') (V++V')):Fits m' γ' rs V :=
 ⟨fun k row hm=>h.r k row (List.mem_append_left _ hm),fun k v cs hm=>h.v k v cs (List.mem_append_left _ hm)⟩
theorem Fits.right {m':Lk} {rs rs':List (Nat×Row)} {V V':List (Nat×(Value×List Value))} (h:Fits m' γ' (rs++rs') (V++V')):Fits m' γ' rs' V' :=
 ⟨fun k row hm=>h.r k row (List.mem_append_right _ hm),fun k v cs hm=>h.v k v cs (List.mem_append_right _ hm)⟩
theorem Fits.tail {m':Lk} {p:Nat×Row} {q:Nat×(Value×List Value)} {rs:List (Nat×Row)} {V:List (Nat×(Value×List Value))} (h:Fits m' γ' (p::rs) (q::V)):Fits m' γ' rs V :=
 ⟨fun k row hm=>h.r k row (zJ _ hm),fun k v cs hm=>h.v k v cs (zJ _ hm)⟩
theorem Fits.head {m':Lk} {k:Nat} {row:Row} {v:Value} {cs:List Value} {rs:List (Nat×Row)} {V:List (Nat×(Value×List Value))} (h:Fits m' γ' ((k,row)::rs) ((k,(v,cs))::V)):bp m' γ' (.sw k) v :=
 ⟨h.r k row zO,(h.v k v cs zO).symm⟩
theorem bL.HQ.Xv {c:bL} {args:List Value} (h:c.HQ X S γ w args) {p j:Nat} (hj:j<64) (fP:100000+p*64+j<200000) {row:Row} (hr:(entry c.g c.ar.cb c.cJ).lk.r (100000+p*64+j)=some row) :
  ∃ cc,QZ c.iZ p j=some cc/\bp S.lk γ cc (c.rv γ w args (100000+p*64+j))/\c.m.ct cc=some (.l row.τ row.xs):=by
 rcases JR hr with ⟨P,x,hx,hA⟩ | ⟨k,l,j',τ,xs,hl,MI,hk,_⟩
 ·obtain ⟨v,u,hv,hu,Qx,vP,hP,Zn⟩:=h.arg hx
  rcases hA with ⟨j',τ,xs,MI,hk,rfl⟩ | ⟨τ,xs,rfl,hk,rfl⟩
  ·cases Zn with
   | val h1 h2 h3 h4 =>
    rename_i cs ys ys'
    have P7:acl x=ys':=by rcases h1 with ⟨_,rfl⟩ | ⟨_,_,_,rfl,_,rfl⟩<;>rfl
    rw [P7] at MI
    have hlen:ys.length=cs.length:=(kq h3).1
    have No:j'<64:=by
     have h5:=(zU.1 MI).1
     rcases h4 with ⟨_,rfl,_⟩ | ⟨_,rfl⟩ | ⟨_,rfl,_⟩
     ·omega
     ·simp at h5; omega
     ·omega
    obtain ⟨rfl,rfl⟩:p=P/\j=j':=by omega
    have Vp:ys[j]? =some (.l τ xs):=by
     rcases h4 with ⟨_,rfl,_⟩ | ⟨_,rfl⟩ | ⟨_,rfl,_⟩
     ·exact MI
     ·rw [List.getElem?_map] at MI
      cases hy:ys[j]? with
      | none=>rw [hy] at MI; cases MI
      | some y=>rw [hy] at MI; cases y<;>simp [mQ] at MI
     ·exact MI
    obtain ⟨cc,hc,dg⟩:=(kq h3).2 j _ Vp
    rcases Eg h.rel h1 vP with ⟨rfl,rfl⟩ | Ce
    ·cases j<;>simp at hc; subst hc; simp [Lk.ct] at dg
    ·obtain ⟨uv,HM,z7⟩:=Ce.get hc
     refine ⟨cc,?_,?_,dg⟩
     ·simp only [QZ,ij,hv]
      rcases h1 with ⟨rfl,_⟩ | ⟨c1,y1,rfl,_,rfl,_⟩
      ·exact hc
      ·cases j with
       | zero=>exact hc
       | succ j=>simp at hc
     ·rw [c.EY γ w args p j hj hP,Qx,show cellAt u j=uv by simp [cellAt,List.getD,HM]]
      exact z7
   | _=>simp [acl] at MI
  ·omega
 ·omega
theorem BZ {c:bL} {args:List Value} (h:c.HQ X S γ w args) {K:List Nat} {O:OM} {w1:World} {d:Nat} {y:Rc} {v:Value} {ks:List Nat}
  (hy:rF X (entry c.g c.ar.cb c.cJ).lk (c.gh X γ w args) K O w1 d y v ks) {x:Cv} (hx:pE c.iZ y=some x):ks=[]/\bp S.lk γ x v:=by
 cases y with
 | c y=>simp [pE] at hx
 | m y=>simp [pE] at hx
 | un=>simp only [pE,zA] at hx; subst hx; exact hy
 | aw p j =>
  obtain ⟨rfl,row,hj,fP,hr,rfl⟩:=hy
  obtain ⟨cc,h1,h2,_⟩:=h.Xv hj fP hr
  simp only [pE] at hx
  rw [h1] at hx; cases hx
  exact ⟨rfl,h2⟩
 | al p j e cc =>
  obtain ⟨rfl,row,τ,ys,hj,fP,hr,he,hc,hv⟩:=hy
  obtain ⟨c1,h1,h2,h3⟩:=h.Xv hj fP hr
  have xl:=h.pre.rel.rs _ row hr
  obtain ⟨u',oT,eD⟩:=xl.rA e cc _ he hc
  have SH:(c.gh X γ w args).cv (100000+p*64+j)=c.cv X γ w args (100000+p*64+j):=rfl
  rw [hv] at oT; cases oT
  have gY:v.oneCell'=true:=eD.2.ze.Ip.one
  have TH:=J8 h3
  refine ⟨rfl,?_⟩
  simp only [pE,h1] at hx
  cases c1 with
  | sw r =>
   simp only [zA] at hx; subst hx
   simp only [Lk.vw] at TH
   cases KO:c.m.r r with
   | none=>simp [KO,Vw.ct] at TH
   | some row2 =>
    simp only [KO,Vw.ct,zA,Ct.l.injEq] at TH
    obtain ⟨e1,e2⟩:=TH
    obtain ⟨τ1,xs1,ow1⟩:=row
    obtain ⟨τ2,xs2,ow2⟩:=row2
    simp only at e1 e2
    subst e1
    have e2:=eq_of_heq e2
    subst e2
    have fO:=h.le.r r _ KO
    have xq:c.rv γ w args (100000+p*64+j)=γ.rv r:=h2.2
    have cj:=xl.top.ze
    have KQ:=(h.rel.rs r _ fO).top.ze
    have iW:(c.gh X γ w args).cv (100000+p*64+j)=γ.cv r:=by
     have ac6:(c.gh X γ w args).rv (100000+p*64+j)=γ.rv r:=xq
     rw [ac6] at cj
     exact wA cj KQ
    exact ⟨_,τ,ys,fO,he,hc,by rw [← iW]; exact hv⟩
  | sl r off n =>
   simp only [zA] at hx; subst hx
   simp only [Lk.vw] at TH
   cases KO:c.m.r r with
   | none=>simp [KO,Vw.ct] at TH
   | some row2 =>
    simp only [KO,Vw.ct,zA,Ct.l.injEq] at TH
    obtain ⟨e1,e2⟩:=TH
    obtain ⟨τ1,xs1,ow1⟩:=row
    obtain ⟨τ2,xs2,ow2⟩:=row2
    simp only at e1 e2
    subst e1
    have e2:=eq_of_heq e2
    subst e2
    have fO:=h.le.r r _ KO
    obtain ⟨row',cy,hle,rU⟩:=h2
    rw [fO] at cy; cases cy
    have cj:=xl.top.ze
    have KQ:=(h.rel.rs r _ fO).top.ze.sub hle rU
    have hl:=kF xs2 hle
    simp only at cj he hc hv KQ hle
    rw [hl] at cj he
    have iW:(c.gh X γ w args).cv (100000+p*64+j)=((γ.cv r).drop (off*sz τ2)).take (n*sz τ2):=wA cj KQ
    rw [iW] at hv
    have cf:(cells τ2 ((sub xs2 off n).getD e (cg τ2)))[cc]? =some (.l τ ys):=hc
    rw [su xs2 _ he] at cf
    have lH:cc<sz τ2:=by
     have:=(zU.1 cf).1
     rwa [bc] at this
    have acM:e*sz τ2+cc<n*sz τ2:=by
     have:=zP (sz τ2) (show e+1<=n from he)
     rw [Nat.add_mul] at this; omega
    rw [List.getElem?_take,if_pos acM,List.getElem?_drop] at hv
    refine ⟨_,τ,ys,fO,by simp only; omega,cf,?_⟩
    show (γ.cv r)[(off+e)*sz τ2+cc]? =some v
    rw [← hv]; congr 1; rw [Nat.add_mul]; omega
  | _=>simp only [zA] at hx; subst hx; exact gY
theorem p5:∀ (l:List Rc),Mq l=l.length
 | []=>rfl
 | _::l=>by simp [Mq,p5 l]
theorem Dc {m':Lk} {y:Ct} {x:Cv} (h:kf y=some x) {v:Value} (hv:(y= .u/\v.oneCell'=true)\/(y≠ .u/\v=gx y)):bp m' γ' x v:=by
 cases y with
 | l τ xs=>simp [kf] at h
 | u =>
  simp only [kf,zA] at h; subst h
  rcases hv with ⟨_,h⟩ | ⟨h,_⟩
  ·exact h
  ·exact absurd rfl h
 | _ =>
  simp only [kf,zA] at h; subst h
  rcases hv with ⟨h,_⟩ | ⟨_,h⟩
  ·cases h
  ·exact h
def Nw (X:Ctx) (S:St) (γ:Gh) (I:Prop) (A:Nat->Prop) (O:OM) (w1:World) (f:Cv->Cv) (k n:Nat) (ks:List Nat) (rs:List (Nat×Row)) (Q:Lk->Gh->Prop):Prop :=
 ∃ V G,keys G=ks/\ei X I A O w1 rs V G/\(∀ x∈keys rs,k<=x/\x<k+n) /\
  ∀ m' γ',Fits m' γ' rs V->(∀ x v,bp S.lk γ x v->bp m' γ' (f x) v)->Q m' γ'
theorem w6 {c:bL} {args:List Value} (h:c.HQ X S γ w args) {K:List Nat} {O:OM} {w1:World} {f:Cv->Cv} {ms:List Nat} {ys:List Rc} {us:List Value} {ks:List Nat}
  (hr:m8 X (entry c.g c.ar.cb c.cJ).lk (c.gh X γ w args) K O w1 ms ys us ks):∀ {k:Nat} {cs:List Cv} {rs:List (Nat×Row)},kK f c.iZ c.ar.lr k ms ys=some (cs,rs) ->
  Nw X S γ (c.ar.lr=true) (fun g=>∃ r,r∉K/\Mk r (O g)) O w1 f k ys.length ks rs fun m' γ'=>b9 m' γ' cs us:=by
 induction hr with
 | nil =>
  intro k cs rs h
  simp only [kK,zA,zG] at h; obtain ⟨rfl,rfl⟩:=h
  exact ⟨[],[],rfl,.nil,by simp [keys],fun _ _ _ _=> .nil⟩
 | cons hy _ ih =>
  rename_i ms y v k1 ys vs ks _
  intro k cs rs bR
  simp only [kK] at bR
  cases eB:kK f c.iZ c.ar.lr (k+1) (tl ms) ys with
  | none=>simp [eB] at bR
  | some p =>
   obtain ⟨cs',rs'⟩:=p
   simp only [eB] at bR
   obtain ⟨V,G,hG,hN,hK,hQ⟩:=ih eB
   have lift:∀ x∈keys rs',k<=x/\x<k+(ys.length+1):=fun x hx=>by have:=hK x hx; omega
   have plain:∀ (x:Cv),k1=[]->cs=x::cs'->rs=rs'->(∀ m' γ',(∀ x v,bp S.lk γ x v->bp m' γ' (f x) v)->bp m' γ' x v) ->
     Nw X S γ (c.ar.lr=true) (fun g=>∃ r,r∉K/\Mk r (O g)) O w1 f k (ys.length+1) (k1++ks) rs fun m' γ'=>b9 m' γ' cs (v::vs):=by
    rintro x rfl rfl rfl hx
    exact ⟨V,G,by simpa using hG,hN,lift,fun m' γ' hF hk=> .cons (hx m' γ' hk) (hQ m' γ' hF hk)⟩
   cases y with
   | m y =>
    obtain ⟨rfl,gY,mq⟩:=hy
    cases y with
    | l τ xs =>
     simp only at bR
     cases hi:c.ar.lr with
     | true =>
      simp only [hi,zA,zG] at bR
      obtain ⟨rfl,rfl⟩:=bR
      obtain ⟨cv,mq⟩:=mq
      refine ⟨(k,(v,cv))::V,G,by simpa using hG,.lr rfl mq (by rw [hi] at hN; exact hN),fun x hx=> ?_,fun m' γ' hF hk=> .cons hF.head (hQ m' γ' hF.tail hk)⟩
      simp only [keys,zI] at hx
      rcases hx with rfl | hx
      ·simp
      ·exact lift x hx
     | false =>
      simp only [hi,zA,zG] at bR
      rw [← hi]
      exact plain .un rfl bR.1.symm bR.2.symm (fun _ _ _=>gY)
    | u =>
     simp only [kf,zA,zG] at bR
     exact plain _ rfl bR.1.symm bR.2.symm (fun _ _ _=>gY)
    | b x =>
     simp only [kf,zA,zG] at bR
     exact plain _ rfl bR.1.symm bR.2.symm (fun _ _ _=>mq)
    | i a n =>
     simp only [kf,zA,zG] at bR
     exact plain _ rfl bR.1.symm bR.2.symm (fun _ _ _=>mq)
    | s x =>
     simp only [kf,zA,zG] at bR
     exact plain _ rfl bR.1.symm bR.2.symm (fun _ _ _=>mq)
   | c y =>
    cases y with
    | l τ xs =>
     simp only [zA,zG] at bR
     obtain ⟨rfl,rfl⟩:=bR
     obtain ⟨MZ,rn⟩:=hy
     have iV:∀ x∈keys ((k,(⟨τ,xs,w5 (hd ms)⟩:Row))::rs'),k<=x/\x<k+(ys.length+1):=fun x hx=>by
      simp only [keys,zI] at hx
      rcases hx with rfl | hx
      ·simp
      ·exact lift x hx
     rcases rn with ⟨rfl,rfl,rfl⟩ | ⟨key,cv,rfl,bo⟩
     ·exact ⟨(k,(.slice none 0 0,[]))::V,G,by simpa using hG,.emp hN,iV,fun m' γ' hF hk=> .cons hF.head (hQ m' γ' hF.tail hk)⟩
     ·have MZ:rL (hd ms)=true:=MZ.resolve_right (by simp)
      have hw:w5 (hd ms)=hd ms:=by rcases l9 MZ with h | h | h<;>rw [h]<;>rfl
      rw [hw] at iV ⊢
      exact ⟨(k,(v,cv))::V,(key,(k,hd ms))::G,by simp [keys,hG],.own bo (l9 MZ) hN,iV,fun m' γ' hF hk=> .cons hF.head (hQ m' γ' hF.tail hk)⟩
    | u =>
     simp only [kf,zA,zG] at bR
     exact plain _ hy.1 bR.1.symm bR.2.symm (fun _ _ _=>hy.2)
    | b x =>
     simp only [kf,zA,zG] at bR
     exact plain _ hy.1 bR.1.symm bR.2.symm (fun _ _ _=>hy.2)
    | i a n =>
     simp only [kf,zA,zG] at bR
     exact plain _ hy.1 bR.1.symm bR.2.symm (fun _ _ _=>hy.2)
    | s x =>
     simp only [kf,zA,zG] at bR
     exact plain _ hy.1 bR.1.symm bR.2.symm (fun _ _ _=>hy.2)
   | al p j e cc =>
    simp only at bR
    cases ha:pE c.iZ (.al p j e cc) with
    | none=>simp [ha] at bR
    | some x =>
     simp only [ha,zA,zG] at bR
     obtain ⟨h1,h2⟩:=BZ h hy ha
     exact plain _ h1 bR.1.symm bR.2.symm (fun _ _ hk=>hk x v h2)
   | aw p j =>
    simp only at bR
    cases ha:pE c.iZ (.aw p j) with
    | none=>simp [ha] at bR
    | some x =>
     simp only [ha,zA,zG] at bR
     obtain ⟨h1,h2⟩:=BZ h hy ha
     exact plain _ h1 bR.1.symm bR.2.symm (fun _ _ hk=>hk x v h2)
   | un =>
    simp only at bR
    cases ha:pE c.iZ .un with
    | none=>simp [ha] at bR
    | some x =>
     simp only [ha,zA,zG] at bR
     obtain ⟨h1,h2⟩:=BZ h hy ha
     exact plain _ h1 bR.1.symm bR.2.symm (fun _ _ hk=>hk x v h2)
theorem NR {c:bL} {args:List Value} (h:c.HQ X S γ w args) {K:List Nat} {O:OM} {w1:World} {f:Cv->Cv} {ms:List (List Nat)} {ys:List (Bool×List Rc)} {us:List Value} {ks:List Nat}
  (hr:qM X (entry c.g c.ar.cb c.cJ).lk (c.gh X γ w args) K O w1 ms ys us ks):∀ {k:Nat} {ts:List (Bool×List Cv)} {rs:List (Nat×Row)},rE f c.iZ c.ar.lr k ms ys=some (ts,rs) ->
  Nw X S γ (c.ar.lr=true) (fun g=>∃ r,r∉K/\Mk r (O g)) O w1 f k (LO ys) ks rs fun m' γ'=>sT m' γ' ts us:=by
 induction hr with
 | nil =>
  intro k cs rs h
  simp only [rE,zA,zG] at h; obtain ⟨rfl,rfl⟩:=h
  exact ⟨[],[],rfl,.nil,by simp [keys],fun _ _ _ _=> .nil⟩
 | cons hy hb1 X6 _ ih =>
  rename_i ms b l us v k1 ys vs ks _
  intro k ts rs bR
  simp only [rE] at bR
  cases h1:kK f c.iZ c.ar.lr k (nK ms) l with
  | none=>simp [h1] at bR
  | some p =>
   cases h2:rE f c.iZ c.ar.lr (k+l.length) (tl ms) ys with
   | none=>simp [h1,h2] at bR
   | some q =>
    obtain ⟨cs1,rs1⟩:=p
    obtain ⟨ts2,rs2⟩:=q
    simp only [h1,h2,zA,zG] at bR
    obtain ⟨rfl,rfl⟩:=bR
    obtain ⟨V1,G1,g1,n1,k1',q1⟩:=w6 h hy h1
    obtain ⟨V2,G2,g2,n2,k2',q2⟩:=ih h2
    refine ⟨V1++V2,G1++G2,by rw [bx,g1,g2],n1.append n2,fun x hx=> ?_,fun m' γ' hF hk=> .cons ⟨us,q1 m' γ' hF.left hk,hb1,X6⟩ (q2 m' γ' hF.right hk)⟩
    rw [bx,zH] at hx
    simp only [LO,p5]
    rcases hx with hx | hx
    ·have:=k1' x hx; omega
    ·have:=k2' x hx; omega
theorem tA:∀ (n k x:Nat),x∈UT k n↔k<=x/\x<k+n
 | 0,k,x=>by simp [UT]
 | n+1,k,x=>by simp only [UT,zI,tA n (k+1) x]; omega
theorem bL.Ok.own {c:bL} (h:c.Ok):keys (n5 c.m 0 c.g.vl c.ar.κ)=c.ow/\∀ (k v:Nat),c.ar.κ[k]? =some v->∃ cs,c.m.v v=some cs/\∀ j cc,cs[j]? =some cc ->
  FL c.m (·∈c.b) (fun r x d=>(r,(x,d))∈n5 c.m 0 c.g.vl c.ar.κ) (300000+k*64+j) (md (Mj c.g.vl k) j) cc:=by
 have hh:=h.hand
 simp only [Lk.s9] at hh
 cases ho:c.m.eH c.g.vl c.ar.κ with
 | none=>simp [ho] at hh
 | some p =>
  obtain ⟨ow,b⟩:=p
  have hb:ow=c.ow/\b=c.b:=by
   simp only [ho] at hh
   revert hh; split
   ·intro hh; simp only [zA,zG] at hh; exact hh
   ·intro hh; cases hh
  obtain ⟨h1,h2⟩:=my (k0:=0) ho
  rw [hb.1] at h1
  rw [hb.2] at h2
  refine ⟨h1,fun k v hk=> ?_⟩
  obtain ⟨cs,h3,h4⟩:=h2 k v hk
  refine ⟨cs,h3,fun j cc hc=> ?_⟩
  have:=h4 j cc hc
  rwa [Nat.zero_add] at this
theorem x6 (v:Nat):∀ (cs:List Cv) (j x:Nat),x∈homes v j cs↔∃ i,i<cs.length/\x=1000000+v*64+j+i
 | [],j,x=>by simp [homes]
 | c::cs,j,x=>by
  simp only [homes,zI,x6 v cs (j+1) x,zR]
  constructor
  ·rintro (rfl | ⟨i,h1,rfl⟩)
   ·exact ⟨0,by omega,by omega⟩
   ·exact ⟨i+1,by omega,by omega⟩
  ·rintro ⟨i,h1,rfl⟩
   cases i with
   | zero=>left; omega
   | succ i=>exact .inr ⟨i,by omega,by omega⟩
theorem yO:∀ {κ:List Nat} {v x:Nat} {cs:List Cv},v∈κ->m.v v=some cs->x∈homes v 0 cs->x∈m.la κ
 | [],v,x,cs,h,_,_=>by simp at h
 | u::κ,v,x,cs,h,hv,hx=>by
  simp only [Lk.la,zH]
  rcases zI.1 h with rfl | h
  ·left; rw [hv]; exact hx
  ·exact .inr (yO h hv hx)
theorem BR:∀ {κ:List Nat} {x:Nat},x∈m.la κ->1000000<=x
 | [],x,h=>by simp [Lk.la] at h
 | u::κ,x,h=>by
  simp only [Lk.la,zH] at h
  rcases h with h | h
  ·cases hu:m.v u with
   | none=>rw [hu] at h; simp at h
   | some cs=>rw [hu] at h; obtain ⟨i,_,rfl⟩:=(x6 u cs 0 x).1 h; omega
  ·exact BR h
theorem Hm {I:Prop} {A:Nat->Prop} {γ0:Gh} {O:OM} {w1:World} {f:Cv->Cv} {v key:Nat} {ms:List Nat} {ys:List Ct} {us:List Value} {ks:List Nat} (hr:pJ X γ0 O w1 key ms ys us ks) :
  ∀ {j:Nat} {cs cs':List Cv} {rs:List (Nat×Row)},dT f v j ms cs ys=some (cs',rs)->(∀ (i:Nat) (cc:Cv),cs[i]? =some cc->md ms i=1->bp S.lk γ cc (γ0.rv (key+i))) ->
   ∃ V G,keys G=ks/\ei X I A O w1 rs V G/\(∀ x∈keys rs,(∃ i,cs[i]? =some (.sw x)/\md ms i≠0/\md ms i≠1)\/∃ i,i<cs.length/\x=1000000+v*64+j+i) /\
    (∀ p∈rs,rL p.2.ow=true) /\
    ∀ m' γ',Fits m' γ' rs V->(∀ x v,bp S.lk γ x v->bp m' γ' (f x) v)->b9 m' γ' cs' us:=by
 induction hr with
 | nil =>
  intro j cs cs' rs h _
  cases cs with
  | nil=>simp only [dT,zA,zG] at h; obtain ⟨rfl,rfl⟩:=h; exact ⟨[],[],rfl,.nil,by simp [keys],by simp,fun _ _ _ _=> .nil⟩
  | cons=>simp [dT] at h
 | cons hy _ ih =>
  rename_i key ms y u a ys us ks _
  intro j cs cs' rs h gY
  cases cs with
  | nil=>simp [dT] at h
  | cons c cs =>
   simp only [dT] at h
   cases eB:dT f v (j+1) (tl ms) cs ys with
   | none=>simp [eB] at h
   | some p =>
    obtain ⟨cs2,rs2⟩:=p
    simp only [eB] at h
    obtain ⟨V,G,hG,hN,hK,hO,hQ⟩:=ih eB (fun i cc hc hm=>by rw [yM] at hm; have:=gY (i+1) cc (by simpa using hc) hm; rwa [show key+(i+1)=key+1+i by omega] at this)
    have lift:∀ x∈keys rs2,(∃ i,(c::cs)[i]? =some (.sw x)/\md ms i≠0/\md ms i≠1)\/∃ i,i<(c::cs).length/\x=1000000+v*64+j+i:=by
     intro x hx
     rcases hK x hx with ⟨i,h1,h2,h3⟩ | ⟨i,h1,h2⟩
     ·exact .inl ⟨i+1,by simpa using h1,by rwa [yM] at h2,by rwa [yM] at h3⟩
     ·exact .inr ⟨i+1,by simp; omega,by omega⟩
    have plain:∀ x,a=[]->cs'=x::cs2->rs=rs2->(∀ m' γ',(∀ x v,bp S.lk γ x v->bp m' γ' (f x) v)->bp m' γ' x u) ->
      ∃ V G,keys G=a++ks/\ei X I A O w1 rs V G/\(∀ x∈keys rs,(∃ i,(c::cs)[i]? =some (.sw x)/\md ms i≠0/\md ms i≠1)\/∃ i,i<(c::cs).length/\x=1000000+v*64+j+i) /\
       (∀ p∈rs,rL p.2.ow=true)/\∀ m' γ',Fits m' γ' rs V->(∀ x v,bp S.lk γ x v->bp m' γ' (f x) v)->b9 m' γ' cs' (u::us):=by
     rintro x rfl rfl rfl hx
     exact ⟨V,G,by simpa using hG,hN,lift,hO,fun m' γ' hF hk=> .cons (hx m' γ' hk) (hQ m' γ' hF hk)⟩
    have ac2:hd ms=0\/hd ms=1\/∃ n,hd ms=n+2:=by
     rcases hn:hd ms with _ | _ | n
     ·exact .inl rfl
     ·exact .inr (.inl rfl)
     ·exact .inr (.inr ⟨n,rfl⟩)
    rcases ac2 with h0 | h1 | ⟨n,HT⟩
    ·simp only [sW,h0] at hy h
     obtain ⟨rfl,rfl,Aa⟩:=hy
     cases hf:kf y with
     | none=>simp [hf] at h
     | some x =>
      simp only [hf,zA,zG] at h
      refine plain x rfl h.1.symm h.2.symm (fun m' γ' _=>Dc hf (.inr ⟨?_,rfl⟩))
      rintro rfl; exact Aa
    ·simp only [sW,h1] at hy h
     simp only [zA,zG] at h
     obtain ⟨rfl,rfl⟩:=hy
     have:=gY 0 c rfl h1
     rw [Nat.add_zero] at this
     exact plain (f c) rfl h.1.symm h.2.symm (fun m' γ' hk=>hk c _ this)
    ·simp only [sW,HT] at hy h
     rw [← HT] at hy
     cases y with
     | l τ xs =>
      simp only at h hy
      obtain ⟨MZ,rn⟩:=hy
      have hm0:md ms 0≠0/\md ms 0≠1:=by
       rcases l9 MZ with h | h | h<;>rw [v9,h]<;>decide
      have fin:∀ (kk:Nat),cs'= .sw kk::cs2->rs=(kk,(⟨τ,xs,hd ms⟩:Row))::rs2->((c= .sw kk)\/kk=1000000+v*64+j) ->
        ∃ V G,keys G=a++ks/\ei X I A O w1 rs V G/\(∀ x∈keys rs,(∃ i,(c::cs)[i]? =some (.sw x)/\md ms i≠0/\md ms i≠1)\/∃ i,i<(c::cs).length/\x=1000000+v*64+j+i) /\
         (∀ p∈rs,rL p.2.ow=true)/\∀ m' γ',Fits m' γ' rs V->(∀ x v,bp S.lk γ x v->bp m' γ' (f x) v)->b9 m' γ' cs' (u::us):=by
       rintro kk rfl rfl iV
       have hK':∀ x∈keys ((kk,(⟨τ,xs,hd ms⟩:Row))::rs2),(∃ i,(c::cs)[i]? =some (.sw x)/\md ms i≠0/\md ms i≠1)\/∃ i,i<(c::cs).length/\x=1000000+v*64+j+i:=by
        intro x hx
        simp only [keys,zI] at hx
        rcases hx with rfl | hx
        ·rcases iV with rfl | rfl
         ·exact .inl ⟨0,rfl,hm0⟩
         ·exact .inr ⟨0,by simp,by omega⟩
        ·exact lift x hx
       have hO':∀ p∈(kk,(⟨τ,xs,hd ms⟩:Row))::rs2,rL p.2.ow=true:=by
        intro p hp
        rcases zI.1 hp with rfl | hp
        ·exact MZ
        ·exact hO p hp
       rcases rn with ⟨rfl,rfl,rfl⟩ | ⟨k1,cv,rfl,bo⟩
       ·exact ⟨(kk,(.slice none 0 0,[]))::V,G,by simpa using hG,.emp hN,hK',hO',fun m' γ' hF hk=> .cons hF.head (hQ m' γ' hF.tail hk)⟩
       ·exact ⟨(kk,(u,cv))::V,(k1,(kk,hd ms))::G,by simp [keys,hG],.own bo (l9 MZ) hN,hK',hO',fun m' γ' hF hk=> .cons hF.head (hQ m' γ' hF.tail hk)⟩
      rw [← HT] at h
      revert h; split
      ·intro h; simp only [zA,zG] at h; exact fin _ h.1.symm h.2.symm (.inl rfl)
      ·intro h; simp only [zA,zG] at h; exact fin _ h.1.symm h.2.symm (.inr rfl)
     | _=>simp at h
theorem Ak {α:Type} (l:List α) (k:Nat):tl (l.drop k)=l.drop (k+1):=by
 have:∀ l:List α,tl l=l.drop 1:=by intro l; cases l<;>rfl
 rw [this,List.drop_drop]
theorem Jg {c:bL} {args:List Value} (h:c.HQ X S γ w args) {I:Prop} {A:Nat->Prop} {O:OM} {w1:World} {f:Cv->Cv} {k0:Nat} {ms:List (List Nat)} {vo:List (List Ct)} {ks:List Nat}
  (hr:wB X (c.gh X γ w args) O w1 k0 ms vo ks):∀ {κ':List Nat} {vs:List (Nat×List Cv)} {rs:List (Nat×Row)},(∀ (i:Nat),κ'[i]? =c.ar.κ[k0+i]?)->ms=c.g.vl.drop k0->c.m.fU f ms κ' vo=some (vs,rs) ->
   ∃ V G,keys G=ks/\ei X I A O w1 rs V G/\keys vs=κ'/\(∀ x∈keys rs,(x∈c.ow/\yP x=true)\/x∈c.m.la c.ar.κ)/\(∀ p∈rs,rL p.2.ow=true) /\
    ∀ m' γ',Fits m' γ' rs V->(∀ x v,bp S.lk γ x v->bp m' γ' (f x) v)->∀ v cs',(v,cs')∈vs ->
     ∃ (k:Nat) (cur:Array Value) (e:TypeId),c.ar.κ[k]? =some v/\O (γ.vb v)=some (.v k)/\w1.heap[γ.vb v]? =some (.cells cur e (0,0))/\b9 m' γ' cs' cur.toList:=by
 induction hr with
 | nil =>
  intro κ' vs rs hκ Ng hv
  cases κ' with
  | nil=>simp only [Lk.fU,zA,zG] at hv; obtain ⟨rfl,rfl⟩:=hv; exact ⟨[],[],rfl,.nil,rfl,by simp [keys],by simp,fun _ _ _ _ v cs' hm=>by simp at hm⟩
  | cons=>simp [Lk.fU] at hv
 | cons hO1 mU iW _ ih =>
  rename_i k0 ms l a vo ks cur e _
  intro κ' vs rs hκ Ng hv
  cases κ' with
  | nil=>simp [Lk.fU] at hv
  | cons v κ' =>
   simp only [Lk.fU] at hv
   cases D6:c.m.v v with
   | none=>simp [D6] at hv
   | some cs =>
    cases h1:dT f v 0 (nK ms) cs l with
    | none=>simp [D6,h1] at hv
    | some p =>
     cases h2:c.m.fU f (tl ms) κ' vo with
     | none=>simp [D6,h1,h2] at hv
     | some q =>
      obtain ⟨a1,r1⟩:=p
      obtain ⟨b1,q1⟩:=q
      simp only [D6,h1,h2,zA,zG] at hv
      obtain ⟨rfl,rfl⟩:=hv
      have HW:c.ar.κ[k0]? =some v:=by have:=hκ 0; simpa using this.symm
      have FF:(c.gh X γ w args).vb k0=γ.vb v:=by show γ.vb (c.ar.κ.getD k0 0)=_; simp [List.getD,HW]
      rw [FF] at hO1 mU
      obtain ⟨XO,XM⟩:=h.ok.own
      obtain ⟨cs2,Qj,Wp⟩:=XM k0 v HW
      rw [D6] at Qj; cases Qj
      have Nf:nK ms=Mj c.g.vl k0:=by rw [Ng]; rfl
      obtain ⟨_,cur0,e0,X8,abH⟩:=h.rel.vs v cs (h.le.v _ _ D6)
      obtain ⟨cs3,_,Ye,_,_,VD⟩:=(we h.ok.uw).2 k0 v HW
      rw [D6] at Ye; cases Ye
      obtain ⟨V1,G1,g1,n1,k1,o1,q1'⟩:=Hm (S:=S) (γ:=γ) (I:=I) (A:=A) iW h1 (fun i cc hc _=>by
       obtain ⟨uv,HM,z7⟩:=abH.get hc
       have:(c.gh X γ w args).rv (300000+k0*64+i)=uv:=by
        show c.rv γ w args (300000+k0*64+i)=uv
        have hil:i<64:=by have:=(zU.1 hc).1; omega
        rw [c.Ek γ w args k0 i v hil HW X8]; simp only [List.getD,HM]; rfl
       rw [this]; exact z7)
      obtain ⟨V2,G2,g2,n2,k2,k2',o2,q2⟩:=ih (fun i=>by have:=hκ (i+1); rw [List.getElem?_cons_succ] at this; rw [this]; congr 1; omega) (by rw [Ng,Ak]) h2
      refine ⟨V1++V2,G1++G2,by rw [bx,g1,g2],n1.append n2,by simp [keys,k2],fun x hx=> ?_,fun p hp=> ?_,fun m' γ' hF hk u cs' hm=> ?_⟩
      ·rw [bx,zH] at hx
       rcases hx with hx | hx
       ·rcases k1 x hx with ⟨i,e1,e2,e3⟩ | ⟨i,e1,e2⟩
        ·rw [Nf] at e2 e3
         rcases Wp i _ e1 with ⟨hd,_⟩ | ⟨_,⟨r,row,e4,_,_,e5,e6⟩ | ⟨σ,e4⟩⟩
         ·rcases hd with hd | hd
          ·exact absurd hd e2
          ·exact absurd hd e3
         ·cases e4
          exact .inl ⟨by rw [← XO]; exact mem_keys e6,e5⟩
         ·cases e4
        ·exact .inr (yO (List.mem_of_getElem? HW) D6 ((x6 v cs 0 x).2 ⟨i,e1,e2⟩))
       ·exact k2' x hx
      ·rcases zH.1 hp with hp | hp
       ·exact o1 p hp
       ·exact o2 p hp
      ·rcases zI.1 hm with hm | hm
       ·cases hm
        exact ⟨k0,cur,e,HW,hO1,mU,q1' m' γ' hF.left hk⟩
       ·exact q2 m' γ' hF.right hk u cs' hm
theorem BY (key d:Nat):∀ (cs:List Cv) (j:Nat),(∀ r,Cv.sw r∉cs)->vt key d j cs=[]
 | [],j,_=>rfl
 | c::cs,j,h=>by
  have:=BY key d cs (j+1) (fun r hr=>h r (zJ _ hr))
  cases c<;>simp only [vt]<;>first | exact this | exact absurd zO (h _)
theorem N3 {c:bL} {args:List Value} (h:c.HQ X S γ w args) {I:Prop} {A:Nat->Prop} {O:OM} {w1:World} {p:Nat} {cb:List AC} {ys:List Ct} {ks:List Nat}
  (hr:ry X (c.gh X γ w args) O w1 p cb ys ks):∀ {iZ:List AV} {r2:List (Nat×Row)},(∀ (i:Nat),cb[i]? =c.ar.cb[p+i]?)->(∀ (i:Nat),iZ[i]? =c.iZ[p+i]?)->cb.length=iZ.length ->
   c.m.nk (keys (FB (c.g.am.drop p) p iZ)) ys=some r2 ->
   ∃ V G,keys G=ks/\ei X I A O w1 r2 V G/\(∀ p∈r2,p.2.ow=5)/\∀ k v cs,(k,(v,cs))∈V->v=γ.rv k:=by
 induction hr with
 | nil =>
  intro iZ r2 _ _ hl Cq
  cases iZ with
  | cons=>simp at hl
  | nil=>simp only [FB,keys,Lk.nk,zA] at Cq; subst Cq; exact ⟨[],[],rfl,.nil,by simp,by simp⟩
 | io bo _ ih =>
  rename_i p τ xs xs' cs l ys ks _
  intro iZ r2 Qh PM hl Cq
  cases iZ with
  | nil=>simp at hl
  | cons v iZ =>
   have hx:c.ar.cb[p]? =some (.io τ xs):=by have:=Qh 0; simpa using this.symm
   have hv0:c.iZ[p]? =some v:=by have:=PM 0; simpa using this.symm
   obtain ⟨v',u,hv,hu,Qx,vP,hP,hA⟩:=h.arg hx
   rw [hv0] at hv; cases hv
   cases hA with
   | val h1=>rcases h1 with ⟨_,h⟩ | ⟨_,_,_,h,_⟩<;>cases h
   | io h0 h9 hmr hH =>
    rename_i r
    have Ys:hd (c.g.am.drop p)=9:=h9
    simp only [FB,Ys,Lm,M6,vt,bx,Ak] at Cq
    simp only [keys,List.singleton_append,List.cons_append,List.nil_append,Lk.nk,hmr] at Cq
    cases eB:c.m.nk (keys (FB (c.g.am.drop (p+1)) (p+1) iZ)) ys with
    | none=>simp [eB] at Cq
    | some q =>
     simp only [eB,ND,zA] at Cq; subst Cq
     obtain ⟨V,G,hG,hN,h5,hV⟩:=ih (fun i=>by have:=Qh (i+1); rw [List.getElem?_cons_succ] at this; rw [this]; congr 1; omega)
      (fun i=>by have:=PM (i+1); rw [List.getElem?_cons_succ] at this; rw [this]; congr 1; omega) (by simpa using hl) eB
     have xq:(c.gh X γ w args).rv (200000+p*64)=γ.rv r:=by
      show c.rv γ w args (200000+p*64)=_
      rw [c.NG γ w args p hP,Qx]; exact vP.2
     rw [xq] at bo
     refine ⟨(r,(γ.rv r,cs))::V,(200000+p*64,(r,5))::G,by simp [keys,hG],.own bo (.inr (.inr rfl)) hN,fun q hq=> ?_,fun k v' cs' hm=> ?_⟩
     ·rcases zI.1 hq with rfl | hq
      ·rfl
      ·exact h5 q hq
     ·rcases zI.1 hm with hm | hm
      ·cases hm; rfl
      ·exact hV k v' cs' hm
 | skip cL _ ih =>
  rename_i p x l ys ks _
  intro iZ r2 Qh PM hl Cq
  cases iZ with
  | nil=>simp at hl
  | cons v iZ =>
   have hx:c.ar.cb[p]? =some x:=by have:=Qh 0; simpa using this.symm
   have hv0:c.iZ[p]? =some v:=by have:=PM 0; simpa using this.symm
   obtain ⟨v',u,hv,hu,Qx,vP,hP,hA⟩:=h.arg hx
   rw [hv0] at hv; cases hv
   have HP:FB (c.g.am.drop p) p (v::iZ)=FB (c.g.am.drop (p+1)) (p+1) iZ:=by
    simp only [FB,Ak]
    cases h9:Lm (hd (c.g.am.drop p)) with
    | false=>rfl
    | true =>
     have hd9:md c.g.am p=9:=by
      have:hd (c.g.am.drop p)=9:=by
       revert h9; unfold Lm; split
       ·rename_i h; exact fun _=>h
       ·simp
      exact this
     have Cj:vt (200000+p*64) 5 0 (M6 v)=[]:=by
      cases hA with
      | ptr _ _=>exact BY _ _ _ _ (by simp [M6])
      | fn _ _ _=>exact BY _ _ _ _ (by simp [M6])
      | val h1 h2 h3 h4 =>
       exfalso
       rw [hd9] at h4
       rcases h4 with ⟨h,_⟩ | ⟨h,_⟩ | ⟨h,_⟩
       ·cases h
       ·cases h
       ·simp [rL] at h
      | io h0 h1 h2 h3=>exact absurd rfl (cL _ _)
      | al h0 h8 h1 h2 h3=>rw [hd9] at h8; cases h8
     rw [Cj]; rfl
   rw [HP] at Cq
   exact ih (fun i=>by have:=Qh (i+1); rw [List.getElem?_cons_succ] at this; rw [this]; congr 1; omega)
    (fun i=>by have:=PM (i+1); rw [List.getElem?_cons_succ] at this; rw [this]; congr 1; omega) (by simpa using hl) Cq
end Go.Soft
namespace Go.Soft
open Go
variable {X:Ctx} {m M:Lk} {γ γ':Gh} {w w':World} {ρ:Operand->Value} {S:St} {δ:Dl}
theorem Sa {c:bL} {args:List Value} (h:c.HQ X S γ w args) {K:List Nat} {O:OM} {w1:World} {f:Cv->Cv} {d:Nat} {res:RC} {v:Value} {ks:List Nat}
  (hr:vu X (entry c.g c.ar.cb c.cJ).lk (c.gh X γ w args) K O w1 c.g.rl res v ks) {av:AV} {rs:List (Nat×Row)} {vn:List (Nat×List Cv)} (bR:vW f c.iZ c.ar.lr c.g.rl d res=some (av,rs,vn)) :
  ∃ V G,keys G=ks/\ei X (c.ar.lr=true) (fun g=>∃ r,r∉K/\Mk r (O g)) O w1 rs V G/\(∀ x∈keys rs,x∈res.keys d) /\
   ((vn=[]/\(∀ l,res≠ .np l)/\∀ m' γ',Fits m' γ' rs V->(∀ x v,bp S.lk γ x v->bp m' γ' (f x) v)->bn m' γ' av v) \/
    ∃ (l:List Rc) (cs:List Cv) (cv g:Nat) (cur:Array Value) (e:TypeId),res= .np l/\vn=[(1000+d,cs)]/\av= .c (.pv (1000+d) 0)/\1000<=cv/\v= .pointer (some ⟨g,0,none⟩)/\O g=some (.v cv) /\
     w1.heap[g]? =some (.cells cur e (0,0))/\∀ m' γ',Fits m' γ' rs V->(∀ x v,bp S.lk γ x v->bp m' γ' (f x) v)->b9 m' γ' cs cur.toList):=by
 cases res with
 | u =>
  obtain ⟨rfl,rfl⟩:=hr
  simp only [vW,zA,zG] at bR
  obtain ⟨rfl,rfl,rfl⟩:=bR
  exact ⟨[],[],rfl,.nil,by simp [keys],.inl ⟨rfl,by simp,fun _ _ _ _=>⟨[],rfl,.nil⟩⟩⟩
 | c x =>
  simp only [vW] at bR
  cases h1:kK f c.iZ c.ar.lr (d*64) (nK c.g.rl) [x] with
  | none=>simp [h1] at bR
  | some p =>
   obtain ⟨cs,rs1⟩:=p
   have Wt:m8 X (entry c.g c.ar.cb c.cJ).lk (c.gh X γ w args) K O w1 (nK c.g.rl) [x] [v] (ks++[]):= .cons hr .nil
   obtain ⟨V,G,g1,g2,g3,g4⟩:=w6 h Wt h1
   simp only [h1] at bR
   revert bR; split
   ·rename_i heq
    simp only [zA,zG] at heq
    obtain ⟨rfl,rfl⟩:=heq
    intro bR
    simp only [zA,zG] at bR
    obtain ⟨rfl,rfl,rfl⟩:=bR
    refine ⟨V,G,by simpa using g1,g2,fun y hy=> ?_,.inl ⟨rfl,by simp,fun m' γ' hF hk=> ?_⟩⟩
    ·have:=g3 y hy
     simp only [RC.keys,zS]
     simp at this; omega
    ·have:=g4 m' γ' hF hk
     cases this with
     | cons hx _=>exact bn.of hx
   ·intro bR; cases bR
 | a l =>
  obtain ⟨us,rfl,hr⟩:=hr
  simp only [vW] at bR
  cases h1:kK f c.iZ c.ar.lr (d*64) (nK c.g.rl) l with
  | none=>simp [h1] at bR
  | some p =>
   obtain ⟨cs,rs1⟩:=p
   simp only [h1,zA,zG] at bR
   obtain ⟨rfl,rfl,rfl⟩:=bR
   obtain ⟨V,G,g1,g2,g3,g4⟩:=w6 h hr h1
   refine ⟨V,G,g1,g2,fun y hy=> ?_,.inl ⟨rfl,by simp,fun m' γ' hF hk=>⟨us,rfl,g4 m' γ' hF hk⟩⟩⟩
   simp only [RC.keys,p5,tA]; exact g3 y hy
 | t l =>
  obtain ⟨us,rfl,hr⟩:=hr
  simp only [vW] at bR
  cases h1:rE f c.iZ c.ar.lr (d*64) c.g.rl l with
  | none=>simp [h1] at bR
  | some p =>
   obtain ⟨ts,rs1⟩:=p
   simp only [h1,zA,zG] at bR
   obtain ⟨rfl,rfl,rfl⟩:=bR
   obtain ⟨V,G,g1,g2,g3,g4⟩:=NR h hr h1
   refine ⟨V,G,g1,g2,fun y hy=> ?_,.inl ⟨rfl,by simp,fun m' γ' hF hk=>⟨us,rfl,g4 m' γ' hF hk⟩⟩⟩
   simp only [RC.keys,tA]; exact g3 y hy
 | np l =>
  obtain ⟨cv,g,cur,e,SH,rfl,hO,mU,hr⟩:=hr
  simp only [vW] at bR
  cases h1:kK f c.iZ c.ar.lr (d*64) (nK c.g.rl) l with
  | none=>simp [h1] at bR
  | some p =>
   obtain ⟨cs,rs1⟩:=p
   simp only [h1,zA,zG] at bR
   obtain ⟨rfl,rfl,rfl⟩:=bR
   obtain ⟨V,G,g1,g2,g3,g4⟩:=w6 h hr h1
   refine ⟨V,G,g1,g2,fun y hy=> ?_,.inr ⟨l,cs,cv,g,cur,e,rfl,rfl,rfl,SH,rfl,hO,mU,g4⟩⟩
   simp only [RC.keys,p5,tA]; exact g3 y hy
theorem yg:∀ {l:List (Nat×Row)},(keys l).Nodup->∀ k,fh (mC l) k=(lk l k).map some
 | [],_,k=>rfl
 | (j,r)::l,hn,k=>by
  simp only [keys,List.nodup_cons] at hn
  simp only [mC,fh,yg hn.2,lk]
  cases hj:Nat.beq j k with
  | true =>
   have:=aF hj; subst this
   rw [cH.2 hn.1]; simp
  | false =>
   have:j≠k:=by rintro rfl; rw [Nat.beq_refl] at hj; cases hj
   cases lk l k<;>simp [this]
theorem wS (a b:List (Nat×Row)):mC (a++b)=mC a++mC b:=by
 induction a with
 | nil=>rfl
 | cons p a ih=>obtain ⟨k,r⟩:=p; simp [mC,ih]
theorem LR (l:List Nat) (k:Nat):fh (Az l) k=if k∈l then some none else none:=by
 induction l with
 | nil=>rfl
 | cons j l ih =>
  simp only [Az,fh,ih,zI]
  by_cases h:k∈l
  ·simp [h]
  ·by_cases hj:j=k
   ·subst hj; simp [h]
   ·simp [h,hj,Ne.symm hj]
theorem Kv (m:Lk):∀ (l:List Nat) (k:Nat),fh (m.Th l) k=if k∈l then (m.r k).map (fun row=>some { row with ow:=3 }) else none
 | [],k=>rfl
 | j::l,k=>by
  have ih:=Kv m l k
  simp only [Lk.Th]
  cases hj:m.r j with
  | none =>
   simp only [ih,zI]
   by_cases h:k∈l
   ·simp [h]
   ·by_cases Fv:k=j
    ·subst Fv; simp [h,hj]
    ·simp [h,Fv]
  | some row =>
   simp only [fh,ih,zI]
   by_cases h:k∈l
   ·simp only [h,if_true,or_true]
    cases hk:m.r k with
    | some r=>rfl
    | none =>
     have:j≠k:=by rintro rfl; rw [hj] at hk; cases hk
     simp [this]
   ·by_cases Fv:j=k
    ·subst Fv; simp [h,hj]
    ·simp [h,Fv,Ne.symm Fv]
theorem qc {α:Type} {l:List (Nat×α)} {k:Nat} (h:k∈keys l):∃ v,lk l k=some v:=by
 cases hl:lk l k with
 | some v=>exact ⟨v,rfl⟩
 | none=>exact absurd h (cH.1 hl)
theorem O7 {α:Type} {l:List (Nat×α)} {k:Nat} (h:k∈keys l):∃ v,(k,v)∈l:=by
 obtain ⟨v,hv⟩:=qc h; exact ⟨v,cM hv⟩
theorem nU {n:Nat}:∀ {l:List Nat},s6 n l=true↔∀ x∈l,x<n
 | []=>by simp [s6]
 | y::l=>by
  simp only [s6,zB,nU,zI,forall_eq_or_imp]
  have:Nat.blt y n=true↔y<n:=by
   show Nat.ble (y+1) n=true↔y<n
   exact ⟨fun h=>zQ h,fun h=>Nat.ble_eq_true_of_le h⟩
  rw [this]
theorem KA {f:Cv->Cv} {v key:Nat}:∀ {cs:List Cv} {ms:List Nat} {j j':Nat} {ys:List Ct} {cs':List Cv} {rs:List (Nat×Row)},dT f v j ms cs ys=some (cs',rs)->∀ x∈keys (zX key ms j' cs),x∈keys rs
 | [],ms,j,j',ys,cs',rs,h,x,hx=>by simp [zX,keys] at hx
 | c::cs,ms,j,j',ys,cs',rs,h,x,hx=>by
  cases ys with
  | nil=>simp [dT] at h
  | cons y ys =>
   simp only [dT] at h
   cases eB:dT f v (j+1) (tl ms) cs ys with
   | none=>simp [eB] at h
   | some p =>
    obtain ⟨cs2,rs2⟩:=p
    simp only [eB] at h
    have ih:=KA (key:=key) (j':=j'+1) eB
    simp only [zX,bx,zH] at hx
    rcases hn:hd ms with _ | _ | n
    ·simp only [hn] at h hx
     cases hf:kf y with
     | none=>simp [hf] at h
     | some z =>
      simp only [hf,zA,zG] at h
      rw [← h.2]
      rcases hx with hx | hx
      ·simp [keys] at hx
      ·exact ih x hx
    ·simp only [hn,zA,zG] at h hx
     rw [← h.2]
     rcases hx with hx | hx
     ·simp [keys] at hx
     ·exact ih x hx
    ·simp only [hn] at h hx
     cases y with
     | l τ xs =>
      simp only at h
      cases c with
      | sw r =>
       simp only [zA,zG] at h
       rw [← h.2]
       simp only [keys,zI,List.not_mem_nil,or_false] at hx ⊢
       rcases hx with hx | hx
       ·exact .inl hx
       ·exact .inr (ih x hx)
      | _ =>
       simp only [zA,zG] at h
       rw [← h.2]
       simp only [keys,zI,List.not_mem_nil,or_false,false_or] at hx ⊢
       exact .inr (ih x hx)
     | _=>simp at h
theorem Dy {f:Cv->Cv}:∀ {κ:List Nat} {vl:List (List Nat)} {k:Nat} {vo:List (List Ct)} {vs:List (Nat×List Cv)} {rs:List (Nat×Row)},m.fU f vl κ vo=some (vs,rs)->∀ x∈keys (n5 m k vl κ),x∈keys rs
 | [],vl,k,vo,vs,rs,h,x,hx=>by simp [n5,keys] at hx
 | v::κ,vl,k,vo,vs,rs,h,x,hx=>by
  cases vo with
  | nil=>simp [Lk.fU] at h
  | cons l vo =>
   simp only [Lk.fU] at h
   cases hv:m.v v with
   | none=>simp [hv] at h
   | some cs =>
    cases h1:dT f v 0 (nK vl) cs l with
    | none=>simp [hv,h1] at h
    | some p =>
     cases h2:m.fU f (tl vl) κ vo with
     | none=>simp [hv,h1,h2] at h
     | some q =>
      obtain ⟨a1,r1⟩:=p
      obtain ⟨b1,q1⟩:=q
      simp only [hv,h1,h2,zA,zG] at h
      rw [← h.2]
      simp only [n5,hv,bx,zH] at hx ⊢
      rcases hx with hx | hx
      ·exact .inl (KA h1 x hx)
      ·exact .inr (Dy h2 x hx)
theorem Ah:∀ {l:List Nat} {ys:List Ct} {q:List (Nat×Row)},m.nk l ys=some q->keys q=l
 | [],ys,q,h=>by
  cases ys with
  | nil=>simp only [Lk.nk,zA] at h; subst h; rfl
  | cons=>simp [Lk.nk] at h
 | r::l,ys,q,h=>by
  cases ys with
  | nil=>simp [Lk.nk] at h
  | cons y ys =>
   cases y with
   | l τ xs =>
    simp only [Lk.nk] at h
    cases hr:m.r r with
    | none=>simp [hr] at h
    | some row =>
     cases h2:m.nk l ys with
     | none=>simp [hr,h2] at h
     | some q2 =>
      simp only [hr,h2] at h
      revert h; split
      ·intro h; simp only [zA] at h; subst h; simp [keys,Ah h2]
      ·intro h; cases h
   | _=>simp [Lk.nk] at h
def Ih (npv:Option (Nat×Nat)) (n:Nat) (vb:Nat->Nat) (k:Nat):Nat:=match npv with | some (_,g)=>if k=n then g else vb k | none=>vb k
def npV (npv:Option (Nat×Nat)) (n k:Nat):Option Ow:=match npv with | some (cv,_)=>if k=cv then some (.v n) else none | none=>none
theorem RH {c:bL} {args:List Value} (h:c.HQ X S γ w args) {cr:CR} {v:Value} {w1:World} (hp:ER X c.g c.ar.cb c.cJ (c.gh X γ w args) w cr v w1) {d:Nat} (hd:d<1500) {av:AV}
  (ha:c.m.after c.g c.iZ c.ar cr c.ow d=some (av,δ)):∃ γ',Step X S γ w δ γ' w1/\bn (S.app δ).lk γ' av v:=by
 obtain ⟨O1,ka,kb,kc,D7,HN,bR,hvo,Cq⟩:=hp
 have hf:=h.ok.fact
 have Nk:=sb c.iZ c.g.am [] 0 c.ar h.ok.args
 simp only [Lk.after] at ha
 obtain ⟨δ0,hδ0⟩:∃ δ0,c.m.V7 c.ar cr.res c.ow d=δ0:=⟨_,rfl⟩
 rw [hδ0] at ha
 cases h1:c.m.fU δ0.map c.g.vl c.ar.κ cr.vo with
 | none=>simp [h1] at ha
 | some p1 =>
  obtain ⟨vs,r1⟩:=p1
  cases h2:c.m.nk c.ar.io cr.io with
  | none=>simp [h1,h2] at ha
  | some r2 =>
   cases h3:vW δ0.map c.iZ c.ar.lr c.g.rl d cr.res with
   | none=>simp [h1,h2,h3] at ha
   | some p3 =>
    obtain ⟨av',r3,vn⟩:=p3
    simp only [h1,h2,h3] at ha
    cases uU:fB (c.ar.gone++(keys r1++(keys r2++keys r3)))&&s6 100000 (cr.res.keys d) with
    | false=>simp [uU] at ha
    | true =>
     cases HT:jr c.ar.fz (keys r1++(keys r2++keys r3)) with
     | false=>simp [uU,HT] at ha
     | true =>
      simp only [uU,HT,zA,zG] at ha
      obtain ⟨rfl,hδ⟩:=ha
      simp only [zB] at uU
      obtain ⟨uU,Wl⟩:=uU
      have uU:=gH.1 uU
      have HT:=eI.1 HT
      let K:=ka++(kb++kc)
      let A:Nat->Prop:=fun g=>∃ r,r∉K/\Mk r (O1 g)
      obtain ⟨V3,G3,g3,n3,k3,P3⟩:=Sa h bR h3
      obtain ⟨V1,G1,g1,n1,kvs,k1,o1,q1⟩:=Jg (I:=c.ar.lr=true) (A:=A) h hvo (fun i=>by simp) rfl h1
      have abC:keys (FB (c.g.am.drop 0) 0 c.iZ)=c.ar.io:=Nk.io
      obtain ⟨V2,G2,g2,n2,o2,q2⟩:=N3 (I:=c.ar.lr=true) (A:=A) h Cq (fun i=>by simp) (fun i=>by simp) Nk.len (by rw [abC]; exact h2)
      let N:=r1++(r2++r3)
      let V:=V1++(V2++V3)
      have hN:ei X (c.ar.lr=true) A O1 w1 N V (G1++(G2++G3)):=n1.append (n2.append n3)
      have Sx:keys N=keys r1++(keys r2++keys r3):=by simp only [N,bx]
      have hkV:keys V=keys N:=hN.keys
      have XG:(keys N).Nodup:=by rw [Sx]; exact (List.nodup_append.1 uU).2.1
      have hgN:∀ k,k∈c.ar.gone->k∉keys N:=fun k hk uy=>by rw [Sx] at uy; exact (List.nodup_append.1 uU).2.2 k hk k uy rfl
      have hfN:∀ k,k∈c.ar.fz->k∉keys N:=fun k hk=>by rw [Sx]; exact HT k hk
      let G:=G1++(G2++G3)
      have hGk:∀ k,k∈keys G↔k∈K:=by
       intro k; simp only [G,K,bx,g1,g2,g3,zH]
       constructor
       ·rintro (h | h | h)
        ·exact .inr (.inl h)
        ·exact .inr (.inr h)
        ·exact .inl h
       ·rintro (h | h | h)
        ·exact .inr (.inr h)
        ·exact .inl h
        ·exact .inr (.inl h)
      have ac0:(keys G).Nodup:=by
       simp only [G,bx,g1,g2,g3]
       simp only [List.nodup_append,zH] at HN ⊢
       obtain ⟨na,⟨nb,nc,nbc⟩,nabc⟩:=HN
       refine ⟨nb,⟨nc,na,fun x hx y hy e=>nabc y hy x (.inr hx) e.symm⟩,fun x hx y hy e=> ?_⟩
       rcases hy with hy | hy
       ·exact nbc x hx y hy e
       ·exact nabc y hy x (.inl hx) e.symm
      have HC:δ.map=δ0.map:=by rw [← hδ]; funext x; cases x<;>rfl
      have hvsδ:δ.vs=vs++vn:=by rw [← hδ]
      have kV:δ.kr=c.ar.gone++(c.ow++(cr.res.keys d++c.m.la c.ar.κ)):=by rw [← hδ,← hδ0]; rfl
      have hke:δ.ke=c.ar.io:=by rw [← hδ,← hδ0]; rfl
      have hkvδ:δ.kv=cr.res.kv d:=by rw [← hδ,← hδ0]; rfl
      have D6:δ.mv=[]:=by rw [← hδ,← hδ0]; rfl
      have Fq:δ.kn=[]:=by rw [← hδ,← hδ0]; rfl
      have z9:∀ k,fh δ.rs k=match lk N k with | some row=>some (some row) | none=>if k∈c.ar.fz then (c.m.r k).map (fun row=>some { row with ow:=3 }) else if k∈c.ar.gone then some none else none:=by
       intro k
       rw [← hδ]
       show fh (Az c.ar.gone++(c.m.Th c.ar.fz++(mC r1++(mC r2++mC r3)))) k=_
       rw [← wS,← wS,ia,ia,yg XG,Kv,LR]
       cases hl:lk N k with
       | some row=>simp
       | none =>
        simp only [Option.map_none]
        by_cases hk:k∈c.ar.fz
        ·obtain ⟨row,hr,_⟩:=Nk.Wj k hk
         simp [hk,hr]
        ·simp [hk]
      obtain ⟨npv,Jv⟩:∃ npv:Option (Nat×Nat),(npv=none->vn=[]/\cr.res.kv d=[]/\∀ m' γ',Fits m' γ' r3 V3->(∀ x v,bp S.lk γ x v->bp m' γ' (δ0.map x) v)->bn m' γ' av' v) /\
        ∀ cv g,npv=some (cv,g)->∃ (cs:List Cv) (cur:Array Value) (e:TypeId),vn=[(1000+d,cs)]/\cr.res.kv d=[1000+d]/\av'= .c (.pv (1000+d) 0)/\1000<=cv/\v= .pointer (some ⟨g,0,none⟩)/\O1 g=some (.v cv) /\
         w1.heap[g]? =some (.cells cur e (0,0))/\∀ m' γ',Fits m' γ' r3 V3->(∀ x v,bp S.lk γ x v->bp m' γ' (δ0.map x) v)->b9 m' γ' cs cur.toList:=by
       rcases P3 with ⟨HO,MV,VH⟩ | ⟨l,cs,cv,g,cur,e,e1,e2,e3,e4,e5,e6,e7,e8⟩
       ·refine ⟨none,fun _=>⟨HO,?_,VH⟩,fun _ _ h=>by cases h⟩
        cases KL:cr.res<;>first | rfl | exact absurd KL (MV _)
       ·refine ⟨some (cv,g),fun h=>(by cases h),fun _ _ h=> ?_⟩
        simp only [zA,zG] at h
        obtain ⟨rfl,rfl⟩:=h
        exact ⟨cs,cur,e,e2,by rw [e1]; rfl,e3,e4,e5,e6,e7,e8⟩
      let a:Rb:=⟨fun r=>lk G r,none,fun k=>if k<1000 then (c.ar.κ[k]?).map Ow.v else npV npv (1000+d) k⟩
      let first:Nat->Prop:=fun g=>g<w.heap.size/\(c.O γ g=none\/c.O γ g=some .x)
      have acY:∃ O':OM,(∀ g,first g->O' g=γ.O g)/\∀ g,¬ first g->O' g=(O1 g).bind a.f:=by
       classical
       refine ⟨fun g=>if first g then γ.O g else (O1 g).bind a.f,fun g hg=>if_pos hg,fun g hg=>if_neg hg⟩
      obtain ⟨O',HG,MN⟩:=acY
      let γ':Gh:=⟨O',fun k=>match lk V k with | some p=>p.1 | none=>γ.rv k,fun k=>match lk V k with | some p=>p.2 | none=>γ.cv k,Ih npv (1000+d) γ.vb⟩
      have P8:∀ k,k∉keys N->lk V k=none:=fun k hk=>cH.2 (by rw [hkV]; exact hk)
      have Qs:∀ k,k∉keys N->γ'.rv k=γ.rv k/\γ'.cv k=γ.cv k:=by
       intro k hk
       constructor
       ·show (match lk V k with | some p=>p.1 | none=>γ.rv k)=_; rw [P8 k hk]
       ·show (match lk V k with | some p=>p.2 | none=>γ.cv k)=_; rw [P8 k hk]
      have iU:∀ g,g<w.heap.size->(c.O γ g=none\/c.O γ g=some .fz\/c.O γ g=some .x)->O1 g=c.O γ g/\w1.heap[g]? =w.heap[g]? :=fun g hg ho=>D7.oO g hg ho
      have VL:∀ g,g<w.heap.size->c.O γ g=some .fz->O' g=some .fz:=by
       intro g hg ho
       have Vz:¬ first g:=by rintro ⟨_,h | h⟩<;>rw [ho] at h<;>cases h
       rw [MN g Vz,(iU g hg (.inr (.inl ho))).1,ho]; rfl
      have Nc:∀ g,c.O γ g=(γ.O g).bind c.rb.f:=fun _=>rfl
      have Yi:∀ k row,S.lk.r k=some row->lk c.H k=none->k∉c.ar.fz->cS X O' w1 k row (γ.rv k) (γ.cv k):=by
       intro k row hk hH hkf
       have hor:c.rb.r k=none\/c.rb.r k=some (0,1):=by
        simp only [bL.rb,hH,if_neg hkf]
        split
        ·exact .inr rfl
        ·exact .inl rfl
       have htn:∀ x,(∃ e c',x=Ow.n k e c')\/x= .r k->c.rb.f x=none\/c.rb.f x=some .x:=by
        rintro x (⟨e,c',rfl⟩ | rfl)
        ·rcases hor with h | h<;>simp only [Rb.f,h]
         ·exact .inr rfl
         ·exact .inl rfl
        ·rcases hor with h | h<;>simp only [Rb.f,h]
         ·exact .inr rfl
         ·exact .inl rfl
       refine Hd (h.rel.rs k row hk) fun g o hg hi=> ?_
       have fP:=bV hg
       rcases xQ hi with h0 | h0 | ⟨h0,_⟩ | ⟨e,c',h0,_⟩
       ·have nv:c.O γ g=none:=by rw [Nc,h0]; rfl
        exact ⟨((iU g fP (.inl nv)).2).trans hg,HG g ⟨fP,.inl nv⟩⟩
       ·have nv:c.O γ g=some .fz:=by rw [Nc,h0]; rfl
        exact ⟨((iU g fP (.inr (.inl nv))).2).trans hg,by rw [VL g fP nv,h0]⟩
       ·have nv:c.O γ g=none\/c.O γ g=some .x:=by rw [Nc,h0]; exact htn _ (.inr rfl)
        exact ⟨((iU g fP (nv.elim .inl fun h=> .inr (.inr h))).2).trans hg,HG g ⟨fP,nv⟩⟩
       ·have nv:c.O γ g=none\/c.O γ g=some .x:=by rw [Nc,h0]; exact htn _ (.inl ⟨e,c',rfl⟩)
        exact ⟨((iU g fP (nv.elim .inl fun h=> .inr (.inr h))).2).trans hg,HG g ⟨fP,nv⟩⟩
      have Yj:∀ {r ow:Nat} {o:Option Ow},(ow=3\/ow=4\/ow=5)->R5 r ow o->o=some .fz\/(o=some (.r r)/\eu ow=true)\/∃ e c,o=some (.n r e c)/\ow=5:=by
       intro r ow o ho hi
       rcases xQ hi with h0 | h0 | h0 | h0
       ·exfalso; subst h0
        rcases hi with h | ⟨e,c',h⟩<;>rcases ho with rfl | rfl | rfl<;>cases h
       ·exact .inl h0
       ·exact .inr (.inl h0)
       ·exact .inr (.inr h0)
      have ack:∀ k row,k∈c.ar.fz->c.m.r k=some row->cS X O' w1 k { row with ow:=3 } (γ.rv k) (γ.cv k):=by
       intro k row hk hr
       obtain ⟨row2,fO,hle⟩:=Nk.Wj k hk
       rw [hr] at fO; cases fO
       have ho:row.ow=3\/row.ow=4\/row.ow=5:=by
        rcases qO hle with h | ⟨h,_⟩ | ⟨_,h⟩ | ⟨h,_⟩ | ⟨h,_⟩<;>first | exact h | cases h
       have:=(h.rel.rs k row (h.le.r _ _ hr)).relabel (a:=c.rb) (O':=O') (w':=w1) (fun _=>hf.fz k hk) hle (fun g o hg hi=>by
        have fP:=bV hg
        have nv:c.O γ g=some .fz:=by
         rw [Nc]
         rcases Yj ho hi with h0 | ⟨h0,_⟩ | ⟨e,c',h0,_⟩<;>rw [h0]
         ·rfl
         ·show c.rb.f (.r k)=_; simp only [Rb.f,hf.fz k hk]; rfl
         ·show c.rb.f (.n k e c')=_; simp only [Rb.f,hf.fz k hk]; rfl
        exact ⟨((iU g fP (.inr (.inl nv))).2).trans hg,by rw [VL g fP nv,← Nc,nv]⟩)
       exact ⟨this.top,this.rA⟩
      have rn:=hN.row (a:=a) (O':=O') (fun p hp=>gg ac0 hp) (fun g o r ow hg ho hi=>by
        refine MN g fun Fy=> ?_
        have h1:=(iU g Fy.1 (Fy.2.elim .inl fun h=> .inr (.inr h))).1
        rcases Yj ho hi with h0 | ⟨h0,_⟩ | ⟨e,c',h0,_⟩<;>rw [h1] at h0<;>rcases Fy.2 with h2 | h2<;>rw [h2] at h0<;>cases h0)
       (fun S0 g o hg hA=>by
        obtain ⟨r,hrK,VI⟩:=hA
        have Yb:c.O γ g=none->γ.O g=none:=by
         intro nv
         cases MT:γ.O g with
         | none=>rfl
         | some x =>
          exfalso
          rw [Nc,MT] at nv
          have nv:c.rb.f x=none:=nv
          have hκ:c.ar.κ=[]:=Nk.WH S0
          have VJ:c.b=[]:=by
           have hh:=h.ok.hand
           simp only [Lk.s9,hκ,Lk.eH] at hh
           revert hh; split
           ·intro hh; simp only [zA,zG] at hh; exact hh.2.symm
           ·intro hh; cases hh
          have KO:∀ k,c.rb.r k=none\/∃ p,c.rb.r k=some p/\(p.2=3\/p.2=4\/p.2=5):=by
           intro k
           simp only [bL.rb]
           cases hl:lk c.H k with
           | some p =>
            right; refine ⟨p,rfl,?_⟩
            have hm:=cM hl
            simp only [bL.H,zH] at hm
            rcases hm with hm | hm | hm
            ·have:∀ (am:List Nat) (P:Nat) (l:List AV) (x:Nat×(Nat×Nat)),x∈uL am P l->x.2.2=4\/x.2.2=5:=by
              intro am P l
              induction l generalizing am P with
              | nil=>intro x hx; simp [uL] at hx
              | cons v l ih =>
               intro x hx
               simp only [uL,zH] at hx
               rcases hx with hx | hx
               ·have iW:∀ (key dd:Nat) (cs:List Cv) (j:Nat) (x:Nat×(Nat×Nat)),x∈vt key dd j cs->x.2.2=dd:=by
                 intro key dd cs
                 induction cs with
                 | nil=>intro j x hx; simp [vt] at hx
                 | cons cc cs ih2 =>
                  intro j x hx
                  cases cc<;>simp only [vt,zI] at hx<;>first | exact ih2 _ _ hx | (rcases hx with rfl | hx; rfl; exact ih2 _ _ hx)
                revert hx; split
                ·rename_i Zl
                 intro hx
                 have:=iW _ _ _ _ _ hx
                 revert Zl; unfold H4; split
                 ·rename_i h4; exact fun _=> .inl (this.trans h4)
                 ·rename_i h5; exact fun _=> .inr (this.trans h5)
                 ·simp
                ·intro hx; simp at hx
               ·exact ih _ _ x hx
             rcases this _ _ _ _ hm with h | h
             ·exact .inr (.inl h)
             ·exact .inr (.inr h)
            ·rw [hκ] at hm; simp [n5] at hm
            ·have:∀ (am:List Nat) (P:Nat) (l:List AV) (x:Nat×(Nat×Nat)),x∈FB am P l->x.2.2=5:=by
              intro am P l
              induction l generalizing am P with
              | nil=>intro x hx; simp [FB] at hx
              | cons v l ih =>
               intro x hx
               simp only [FB,zH] at hx
               rcases hx with hx | hx
               ·have iW:∀ (key dd:Nat) (cs:List Cv) (j:Nat) (x:Nat×(Nat×Nat)),x∈vt key dd j cs->x.2.2=dd:=by
                 intro key dd cs
                 induction cs with
                 | nil=>intro j x hx; simp [vt] at hx
                 | cons cc cs ih2 =>
                  intro j x hx
                  cases cc<;>simp only [vt,zI] at hx<;>first | exact ih2 _ _ hx | (rcases hx with rfl | hx; rfl; exact ih2 _ _ hx)
                revert hx; split
                ·intro hx; exact iW _ _ _ _ _ hx
                ·intro hx; simp at hx
               ·exact ih _ _ x hx
             exact .inr (.inr (this _ _ _ _ hm))
           | none =>
            simp only
            split
            ·exact .inr ⟨_,rfl,.inl rfl⟩
            ·left
             rw [if_neg]
             rintro ⟨hb,row,hr,ho⟩
             rcases hb with hb | hb
             ·rw [Nk.WQ S0 k hb row hr] at ho; cases ho
             ·rw [VJ] at hb; cases hb
          cases x with
          | fz=>cases nv
          | x=>cases nv
          | v k =>
           simp only [Rb.f,bL.rb] at nv
           split at nv<;>cases nv
          | r k =>
           rcases KO k with h0 | ⟨p,h0,h5⟩<;>simp only [Rb.f,h0] at nv
           ·cases nv
           ·obtain ⟨p1,p2⟩:=p
            rcases h5 with h | h | h<;>simp only at h<;>subst h<;>cases nv
          | n k e c' =>
           rcases KO k with h0 | ⟨p,h0,h5⟩<;>simp only [Rb.f,h0] at nv
           ·cases nv
           ·obtain ⟨p1,p2⟩:=p
            rcases h5 with h | h | h<;>simp only at h<;>subst h<;>cases nv
        by_cases Fy:first g
        ·have h1:=(iU g Fy.1 (Fy.2.elim .inl fun h=> .inr (.inr h))).1
         rw [HG g Fy]
         rcases Fy.2 with h2 | h2
         ·exact .inl (Yb h2)
         ·exfalso; rw [h1,h2] at VI
          rcases VI with h | h | h | ⟨_,_,h⟩<;>cases h
        ·rw [MN g Fy]
         have Y2:lk G r=none:=cH.2 fun hk=>hrK ((hGk r).1 hk)
         rcases VI with h | h | h | ⟨e,c',h⟩<;>rw [h]
         ·exact .inl rfl
         ·exact .inr rfl
         ·left; show a.f (.r r)=none; simp only [Rb.f,a,Y2]
         ·left; show a.f (.n r e c')=none; simp only [Rb.f,a,Y2])
      have SN:keys r2=c.ar.io:=Ah h2
      have acm:∀ x∈c.ow,x∈keys r1:=fun x hx=>Dy (k:=0) h1 x (by rw [h.ok.own.1]; exact hx)
      have P2:∀ r,cd r δ.kr=false->r∉c.ar.gone/\r∉c.ow/\r∉cr.res.keys d/\r∉c.m.la c.ar.κ:=by
       intro r hr
       have hr:r∉δ.kr:=fun hm=>by rw [fb.2 hm] at hr; cases hr
       rw [kV] at hr
       simp only [zH,not_or] at hr
       exact hr
      have hNk:∀ r,r∈keys N->cd r δ.kr=false->r∈c.ar.io:=by
       intro r hr hk
       obtain ⟨_,k2,k3',k4⟩:=P2 r hk
       rw [Sx] at hr
       simp only [zH] at hr
       rcases hr with hr | hr | hr
       ·rcases k1 r hr with ⟨h,_⟩ | h
        ·exact absurd h k2
        ·exact absurd h k4
       ·rw [← SN]; exact hr
       ·exact absurd (k3 r hr) k3'
      have Zg:∀ r,r∈keys r2->γ'.rv r=γ.rv r:=by
       intro r hr
       obtain ⟨p,hp⟩:=qc (l:=V) (k:=r) (by rw [hkV,Sx]; simp [hr])
       show (match lk V r with | some p=>p.1 | none=>γ.rv r)=_
       rw [hp]
       have hm:=cM hp
       have XL:=(List.nodup_append.1 uU).2.1
       simp only [V,zH] at hm
       rcases hm with hm | hm | hm
       ·have:=mem_keys hm
        rw [n1.keys] at this
        exact absurd rfl ((List.nodup_append.1 XL).2.2 r this r (by simp [hr]))
       ·exact q2 r p.1 p.2 hm
       ·have:=mem_keys hm
        rw [n3.keys] at this
        exact absurd rfl ((List.nodup_append.1 (List.nodup_append.1 XL).2.1).2.2 r hr r this)
      have acg:∀ r,r∉keys N->lk N r=none:=fun r hr=>cH.2 hr
      have PZ:∀ r row,S.lk.r r=some row->cd r δ.kr=false->r∉c.ar.io->∃ row',(S.app δ).lk.r r=some row'/\row'.τ=row.τ/\row'.xs.length=row.xs.length/\∀ e,row'.cs e=row.cs e:=by
       intro r row hr hk hi
       have hrN:r∉keys N:=fun hm=>hi (hNk r hm hk)
       rw [kO,z9,acg r hrN]
       by_cases hz:r∈c.ar.fz
       ·obtain ⟨row2,fO,_⟩:=Nk.Wj r hz
        have:=h.le.r r row2 fO
        rw [hr] at this; cases this
        simp only [hz,if_true,fO,Option.map_some]
        exact ⟨_,rfl,rfl,rfl,fun _=>rfl⟩
       ·simp only [hz,(P2 r hk).1,if_false]
        exact ⟨row,hr,rfl,rfl,fun _=>rfl⟩
      have FF:∀ k,(npv=none\/k≠1000+d)->γ'.vb k=γ.vb k:=by
       intro k hk
       show Ih npv (1000+d) γ.vb k=_
       rcases hk with hk | hk
       ·rw [hk]; rfl
       ·cases HV:npv with
        | none=>rfl
        | some p=>simp only [Ih,if_neg hk]
      have pP:∀ x v,bp S.lk γ x v->bp (S.app δ).lk γ' (δ.map x) v:=by
       refine mA h.rel D6 (fun r row hr hk=> ?_) (fun r row row' hr hk P0 cy=> ?_) (fun r hk P0 _=>⟨fun row row' hr cy=> ?_⟩) (fun k cs hk XT=>⟨?_,?_⟩)
       ·by_cases hi:r∈c.ar.io
        ·obtain ⟨row',cy⟩:=qc (l:=N) (k:=r) (by rw [Sx,SN]; simp [hi])
         exact ⟨⟨row',by rw [kO,z9,cy]⟩,Zg r (by rw [SN]; exact hi)⟩
        ·obtain ⟨row',h1,_⟩:=PZ r row hr hk hi
         exact ⟨⟨row',h1⟩,(Qs r (fun hm=>hi (hNk r hm hk))).1⟩
       ·have hi:r∉c.ar.io:=fun hm=>by rw [← hke] at hm; rw [fb.2 hm] at P0; cases P0
        obtain ⟨row2,h1,h2,h3,_⟩:=PZ r row hr hk hi
        rw [cy] at h1; cases h1
        exact ⟨h2,by omega⟩
       ·have hi:r∉c.ar.io:=fun hm=>by rw [← hke] at hm; rw [fb.2 hm] at P0; cases P0
        obtain ⟨row2,h1,h2,h3,h4⟩:=PZ r row hr hk hi
        rw [cy] at h1; cases h1
        intro e c' τ ys _ hc
        exact ⟨⟨ys,by rw [h4]; exact hc,Nat.le_refl _⟩,by rw [(Qs r (fun hm=>hi (hNk r hm hk))).2]⟩
       ·rw [nZ]
        cases fh δ.vs k with
        | some cs'=>exact ⟨cs',rfl⟩
        | none=>simp only [hk,Option.map_some]; exact ⟨_,rfl⟩
       ·refine FF k ?_
        cases HV:npv with
        | none=>exact .inl rfl
        | some p =>
         right
         obtain ⟨cv,g⟩:=p
         obtain ⟨cs',cur,e,_,e2,_⟩:=Jv.2 cv g HV
         rw [hkvδ,e2] at XT
         exact J4.1 XT
      have X7:∀ k row,(S.app δ).lk.r k=some row->cS X O' w1 k row (γ'.rv k) (γ'.cv k):=by
       intro k row hk
       rw [kO,z9] at hk
       cases hl:lk N k with
       | some row2 =>
        simp only [hl] at hk; cases hk
        obtain ⟨v',cs',h1,h2⟩:=rn k row hl
        have e1:γ'.rv k=v':=by show (match lk V k with | some p=>p.1 | none=>γ.rv k)=_; rw [h1]
        have e2:γ'.cv k=cs':=by show (match lk V k with | some p=>p.2 | none=>γ.cv k)=_; rw [h1]
        rw [e1,e2]; exact h2
       | none =>
        simp only [hl] at hk
        have Vk:k∉keys N:=cH.1 hl
        obtain ⟨e1,e2⟩:=Qs k Vk
        rw [e1,e2]
        by_cases hz:k∈c.ar.fz
        ·obtain ⟨row2,fO,_⟩:=Nk.Wj k hz
         simp only [hz,if_true,fO,Option.map_some,zA] at hk
         subst hk
         exact ack k row2 hz fO
        ·by_cases hg:k∈c.ar.gone
         ·simp only [hz,hg,if_true,if_false] at hk; cases hk
         ·simp only [hz,hg,if_false] at hk
          refine Yi k row hk ?_ hz
          rw [cH,hf.kH]
          simp only [zH,not_or]
          refine ⟨hg,fun hm=>Vk ?_,fun hm=>Vk ?_⟩
          ·rw [Sx]; simp [acm k hm]
          ·rw [Sx,SN]; simp [hm]
      have Qy:Fits (S.app δ).lk γ' N V:=by
       refine ⟨fun k row hm=> ?_,fun k v' cs' hm=> ?_⟩
       ·obtain ⟨row',cy⟩:=oC hm
        exact ⟨row',by rw [kO,z9,cy]⟩
       ·show (match lk V k with | some p=>p.1 | none=>γ.rv k)=_
        rw [gg (by rw [hkV]; exact XG) hm]
      have keep0:∀ x v,bp S.lk γ x v->bp (S.app δ).lk γ' (δ0.map x) v:=by rw [← HC]; exact pP
      have hκn:c.ar.κ.Nodup:=Nk.nd (by simp)
      have hlkZ_mem:∀ (l:List (Nat×List Cv)) (k:Nat),(∀ cs,fh l k=some cs->(k,cs)∈l)/\(fh l k=none->k∉keys l):=by
       intro l k
       induction l with
       | nil=>exact ⟨fun cs h=>by simp [fh] at h,fun _=>by simp [keys]⟩
       | cons p l ih =>
        obtain ⟨j,u⟩:=p
        simp only [fh,keys,zI]
        cases hl:fh l k with
        | some cs' =>
         exact ⟨fun cs h=>by simp only [zA] at h; subst h; exact .inr (ih.1 _ hl),fun h=>by cases h⟩
        | none =>
         refine ⟨fun cs h=> ?_,fun h=> ?_⟩
         ·by_cases hj:j=k
          ·simp only [hj,if_true,zA] at h; subst h; subst hj; simp
          ·simp only [hj,if_false] at h; cases h
         ·by_cases hj:j=k
          ·simp [hj] at h
          ·simp [Ne.symm hj,ih.2 hl]
      refine ⟨γ',⟨⟨fun k cs hk=> ?_,X7⟩,pP,⟨D7.os,D7.tape,D7.output,D7.size,fun g hg ho=> ?_,fun g hg=> ?_⟩,fun k row hk _=> ?_,fun k row hk HS=> ?_,fun k HS Jy=> ?_,fun k hk=> ?_,fun k cs hk hz=> ?_⟩,?_⟩
      ·
       rw [nZ,hvsδ] at hk
       have rX:fh (vs++vn) k=none->(S.lk.v k).map (List.map δ.map)=some cs->O' (γ'.vb k)=some (.v k)/\∃ cur e,w1.heap[γ'.vb k]? =some (.cells cur e (0,0))/\b9 (S.app δ).lk γ' cs cur.toList:=by
        intro hz hk
        cases hc:S.lk.v k with
        | none=>simp [hc] at hk
        | some cs0 =>
         simp only [hc,Option.map_some,zA] at hk; subst hk
         obtain ⟨hO,cur,e,mU,Ce⟩:=h.rel.vs k cs0 hc
         rw [ia] at hz
         have V5:fh vn k=none:=by revert hz; cases fh vn k<;>simp
         have XX:fh vs k=none:=by rw [V5] at hz; exact hz
         have hkκ:k∉c.ar.κ:=by rw [← kvs]; exact (hlkZ_mem vs k).2 XX
         have acE:γ'.vb k=γ.vb k:=by
          refine FF k ?_
          cases HV:npv with
          | none=>exact .inl rfl
          | some p =>
           right
           obtain ⟨cv,g⟩:=p
           obtain ⟨cs',cur',e',e1,_⟩:=Jv.2 cv g HV
           rintro rfl
           rw [e1] at V5; simp [fh] at V5
         rw [acE]
         have fP:=bV mU
         have hx:c.O γ (γ.vb k)=some .x:=by
          rw [Nc,hO]
          show c.rb.f (.v k)=_
          have:mZ k 0 c.ar.κ=none:=by
           cases hi:mZ k 0 c.ar.κ with
           | none=>rfl
           | some i=>exact absurd (List.mem_of_getElem? (sN hi).2) hkκ
          simp only [Rb.f,bL.rb,this]
         exact ⟨by rw [HG _ ⟨fP,.inr hx⟩,hO],cur,e,((iU _ fP (.inr (.inr hx))).2).trans mU,Ce.map pP⟩
       cases hz:fh (vs++vn) k with
       | none=>rw [hz] at hk; exact rX hz hk
       | some cs1 =>
        rw [hz] at hk; simp only [zA] at hk; subst hk
        have given:fh vs k=some cs1->(npv=none\/k≠1000+d)->O' (γ'.vb k)=some (.v k)/\∃ cur e,w1.heap[γ'.vb k]? =some (.cells cur e (0,0))/\b9 (S.app δ).lk γ' cs1 cur.toList:=by
         intro XX Qu
         obtain ⟨i,cur,e,hi,hO,mU,Ce⟩:=q1 (S.app δ).lk γ' Qy.left keep0 k cs1 ((hlkZ_mem vs k).1 _ XX)
         rw [FF k Qu]
         have Vz:¬ first (γ.vb k):=by
          intro Fy
          have h1:=(iU _ Fy.1 (Fy.2.elim .inl fun h=> .inr (.inr h))).1
          rw [hO] at h1
          rcases Fy.2 with h2 | h2<;>rw [h2] at h1<;>cases h1
         have zr:i<1000:=by have:=(zU.1 hi).1; have:=h.ok.aaJ; omega
         refine ⟨?_,cur,e,mU,Ce⟩
         rw [MN _ Vz,hO]
         show a.f (.v i)=_
         simp only [Rb.f,a,if_pos zr,hi,Option.map_some]
        cases HV:npv with
        | none =>
         rw [(Jv.1 HV).1,List.append_nil] at hz
         exact given hz (.inl HV)
        | some p =>
         obtain ⟨cv,g⟩:=p
         obtain ⟨cs',cur,e,e1,e2,e3,e4,e5,e6,e7,e8⟩:=Jv.2 cv g HV
         by_cases vN:k=1000+d
         ·subst vN
          rw [e1,ia] at hz
          simp only [fh,if_true,zA] at hz; subst hz
          have ac3:γ'.vb (1000+d)=g:=by
           show Ih npv (1000+d) γ.vb (1000+d)=_
           rw [HV]; simp [Ih]
          rw [ac3]
          have Vz:¬ first g:=by
           intro Fy
           have h1:=(iU _ Fy.1 (Fy.2.elim .inl fun h=> .inr (.inr h))).1
           rw [e6] at h1
           rcases Fy.2 with h2 | h2<;>rw [h2] at h1<;>cases h1
          refine ⟨?_,cur,e,e7,e8 _ _ Qy.right.right keep0⟩
          show O' g=_
          rw [MN _ Vz,e6]
          show a.f (.v cv)=_
          simp only [Rb.f,a,if_neg (show ¬ cv<1000 by omega),HV,npV,if_true]
         ·rw [e1,ia] at hz
          simp only [fh,if_neg (Ne.symm vN)] at hz
          exact given hz (.inr vN)
      ·
       rcases ho with ho | ho | ho
       ·have nv:c.O γ g=none:=by rw [Nc,ho]; rfl
        exact ⟨HG g ⟨hg,.inl nv⟩,(iU g hg (.inl nv)).2⟩
       ·have nv:c.O γ g=some .fz:=by rw [Nc,ho]; rfl
        exact ⟨by rw [ho]; exact VL g hg nv,(iU g hg (.inr (.inl nv))).2⟩
       ·have nv:c.O γ g=some .x:=by rw [Nc,ho]; rfl
        exact ⟨HG g ⟨hg,.inr nv⟩,(iU g hg (.inr (.inr nv))).2⟩
      ·show O' g=none
       have Vz:¬ first g:=fun Fy=>by have:=D7.size; have:=Fy.1; omega
       rw [MN g Vz,D7.top g hg]; rfl
      ·refine Qs k fun hm=> ?_
       obtain ⟨row',cy⟩:=qc hm
       rw [z9,cy] at hk; cases hk
      ·rw [z9] at hk
       cases hl:lk N k with
       | some row2 =>
        simp only [hl,zA] at hk; subst hk
        have hm:=cM hl
        simp only [N,zH] at hm
        rcases hm with hm | hm | hm
        ·have:=o1 _ hm; rw [HS] at this; simp [rL] at this
        ·have:=o2 _ hm; rw [HS] at this; cases this
        ·exact nU.1 Wl k (k3 k (mem_keys hm))
       | none =>
        simp only [hl] at hk
        by_cases hz:k∈c.ar.fz
        ·obtain ⟨row2,fO,_⟩:=Nk.Wj k hz
         simp only [hz,if_true,fO,Option.map_some,zA] at hk
         subst hk; cases HS
        ·simp only [hz,if_false] at hk
         split at hk<;>cases hk
      ·by_cases hm:k∈keys N
       ·rw [Sx] at hm
        simp only [zH] at hm
        rcases hm with hm | hm | hm
        ·rcases k1 k hm with ⟨_,hni⟩ | hh
         ·exact absurd ⟨HS,Jy⟩ (FP hni)
         ·have:=BR hh; omega
        ·exact Zg k hm
        ·have:=nU.1 Wl k (k3 k hm); omega
       ·exact (Qs k hm).1
      ·exact FF k (.inr (by omega))
      ·rw [hvsδ,ia] at hz
       have V5:fh vn k=none:=by revert hz; cases fh vn k<;>simp
       have XX:fh vs k=none:=by rw [V5] at hz; exact hz
       have hkκ:k∉c.ar.κ:=by rw [← kvs]; exact (hlkZ_mem vs k).2 XX
       obtain ⟨hO,cur,e,mU,_⟩:=h.rel.vs k cs hk
       have fP:=bV mU
       have hx:c.O γ (γ.vb k)=some .x:=by
        rw [Nc,hO]
        show c.rb.f (.v k)=_
        have:mZ k 0 c.ar.κ=none:=by
         cases hi:mZ k 0 c.ar.κ with
         | none=>rfl
         | some i=>exact absurd (List.mem_of_getElem? (sN hi).2) hkκ
        simp only [Rb.f,bL.rb,this]
       refine ⟨FF k ?_,by show O' _=_; rw [HG _ ⟨fP,.inr hx⟩,hO],(iU _ fP (.inr (.inr hx))).2⟩
       cases HV:npv with
       | none=>exact .inl rfl
       | some p =>
        right
        obtain ⟨cv,g⟩:=p
        obtain ⟨cs',cur',e',e1,_⟩:=Jv.2 cv g HV
        rintro rfl
        rw [e1] at V5; simp [fh] at V5
      ·cases HV:npv with
       | none=>exact (Jv.1 HV).2.2 _ _ Qy.right.right keep0
       | some p =>
        obtain ⟨cv,g⟩:=p
        obtain ⟨cs',cur,e,e1,e2,e3,e4,e5,e6,e7,e8⟩:=Jv.2 cv g HV
        rw [e3]
        refine ⟨⟨cs',by rw [nZ,hvsδ,e1,ia]; simp [fh]⟩,?_⟩
        rw [e5]
        show _=Value.pointer (some ⟨Ih npv (1000+d) γ.vb (1000+d),0,none⟩)
        rw [HV]; simp [Ih]
end Go.Soft
namespace Go.Soft
open Go
variable {X:Ctx} {R:Type} {E:Env R} {L:Live} {lp:Loop R}
theorem gq.none {α:Type}:gq (fun _:α->Option R=>Option.none):=⟨Option.none,fun _=>rfl⟩
theorem gq.one {α:Type} (x:α):gq (fun k:α->Option R=>k x):=⟨some x,fun _=>rfl⟩
theorem gq.map {α β:Type} {T:(α->Option R)->Option R} (h:gq T) (f:α->β):gq (fun k:β->Option R=>T fun x=>k (f x)):=by
 obtain ⟨o,ho⟩:=h
 refine ⟨o.map f,fun k=> ?_⟩
 show T _=_
 rw [ho]; cases o<;>rfl
theorem gq.bind {α β:Type} {T:(α->Option R)->Option R} (h:gq T) {F:α->(β->Option R)->Option R} (hF:∀ x,gq (F x)):gq (fun k=>T fun x=>F x k):=by
 obtain ⟨o,ho⟩:=h
 cases o with
 | none=>exact ⟨Option.none,fun k=>by show T _=_; rw [ho]; rfl⟩
 | some x=>obtain ⟨o',MW⟩:=hF x; exact ⟨o',fun k=>by show T _=_; rw [ho]; exact MW k⟩
theorem gq.aJ {α:Type} {T:(α->Option R)->Option R} (h:gq T) (c:Bool):gq (fun k=>Soft.aJ c (T k)):=by
 cases c with
 | true=>exact h
 | false=>exact gq.none
theorem EC {q:Bool} {x y z:Ct} (h:NH q x y=some z):z=bif q then x else y:=by
 revert h; unfold NH; split
 ·intro h; cases h; cases q<;>rfl
 ·intro h; cases h; cases q<;>rfl
 ·split
  ·rename_i hk
   intro h; cases h
   rw [qT hk]; cases q<;>rfl
  ·intro h; cases h
 ·intro h; cases h; cases q<;>rfl
 ·rename_i τ x σ y
  cases ha:Ai σ τ [] y with
  | none=>intro h; cases h
  | some z' =>
   intro h; cases h
   obtain ⟨e,hz⟩:=Ae ha
   subst e
   cases q
   ·show Ct.l _ z'=Ct.l _ y; rw [hz]; rfl
   ·rfl
 ·intro h; cases h
theorem Ad {q:Bool}:∀ {x y z:List Ct},G5 q x y=some z->z=bif q then x else y
 | [],[],z,h=>by cases h; cases q<;>rfl
 | [],_::_,_,h=>by cases h
 | _::_,[],_,h=>by cases h
 | a::l,b::m,z,h=>by
  simp only [G5] at h
  revert h; split
  ·rename_i u v h1 h2
   intro h; cases h
   rw [EC h1,Ad h2]; cases q<;>rfl
  ·intro h; cases h
theorem Gu {q:Bool}:∀ {x y z:List (List Ct)},Ks q x y=some z->z=bif q then x else y
 | [],[],z,h=>by cases h; cases q<;>rfl
 | [],_::_,_,h=>by cases h
 | _::_,[],_,h=>by cases h
 | a::l,b::m,z,h=>by
  simp only [Ks] at h
  revert h; split
  ·rename_i u v h1 h2
   intro h; cases h
   rw [Ad h1,Gu h2]; cases q<;>rfl
  ·intro h; cases h
theorem GO {q:Bool} {x y z:Rc} (h:JL q x y=some z):z=bif q then x else y:=by
 revert h; unfold JL; split
 ·split
  ·rename_i h1; intro h; cases h; rw [EC h1]; cases q<;>rfl
  ·intro h; cases h
 ·split
  ·rename_i h1; intro h; cases h; rw [EC h1]; cases q<;>rfl
  ·intro h; cases h
 ·intro h; cases h; cases q<;>rfl
 ·intro h; cases h
theorem xO {q:Bool}:∀ {x y z:List Rc},BB q x y=some z->z=bif q then x else y
 | [],[],z,h=>by cases h; cases q<;>rfl
 | [],_::_,_,h=>by cases h
 | _::_,[],_,h=>by cases h
 | a::l,b::m,z,h=>by
  simp only [BB] at h
  revert h; split
  ·rename_i u v h1 h2
   intro h; cases h
   rw [GO h1,xO h2]; cases q<;>rfl
  ·intro h; cases h
theorem DD {q:Bool}:∀ {x y z:List (Bool×List Rc)},Ea q x y=some z->z=bif q then x else y
 | [],[],z,h=>by cases h; cases q<;>rfl
 | [],_::_,_,h=>by cases h
 | _::_,[],_,h=>by cases h
 | (b,x)::l,(c,y)::m,z,h=>by
  simp only [Ea] at h
  revert h; split
  ·rename_i u v h0 h1 h2
   have hbc:b=c:=by revert h0; cases b<;>cases c<;>simp
   subst hbc
   intro h; cases h
   rw [xO h1,DD h2]; cases q<;>rfl
  ·intro h; cases h
theorem Pu {q:Bool} {x y z:RC} (h:Oi q x y=some z):z=bif q then x else y:=by
 revert h; unfold Oi; split
 ·intro h; cases h; cases q<;>rfl
 ·split
  ·rename_i h1; intro h; cases h; rw [GO h1]; cases q<;>rfl
  ·intro h; cases h
 ·split
  ·rename_i h1; intro h; cases h; rw [xO h1]; cases q<;>rfl
  ·intro h; cases h
 ·split
  ·rename_i h1; intro h; cases h; rw [DD h1]; cases q<;>rfl
  ·intro h; cases h
 ·intro h; cases h
theorem Rh {q:Bool} {x y z:CR} (h:Ij q x y=some z):z=bif q then x else y:=by
 revert h; unfold Ij; split
 ·rename_i h1 h2 h3
  intro h; cases h
  rw [Pu h1,Gu h2,Ad h3]; cases q<;>rfl
 ·intro h; cases h
theorem gq.Dq {α:Type} {f:(CR->Option R)->Option R} (hf:gq f) (p:List (Nat×Bool)) (q:Bool) (d:CR) {F:CR->(α->Option R)->Option R} (hF:∀ x,gq (F x)):gq (fun k=>Soft.Dq p q f d fun x=>F x k):=by
 cases p with
 | nil=>exact hf.bind hF
 | cons a p =>
  exact hf.bind (F:=fun cr k=>match Ij q cr d with | some c=>F c k | Option.none=>Option.none) fun cr=>by
   cases Ij q cr d with
   | none=>exact gq.none
   | some c=>exact hF c
theorem tW (hE:∀ f cb cJ,gq (E.fn f cb cJ)) (ops:Array Oper) (s:St) (o:Oper) :
  gq (fun k:List (Nat×Bool)×Bool×AV×Dl->Option R=>AZ X E ops s o fun p q v δ=>k (p,q,v,δ)):=by
 simp only [AZ]
 cases hg:xK ops s o.guard with
 | none=>exact gq.none
 | some pq =>
  obtain ⟨p,q⟩:=pq
  simp only
  split
  ·split
   ·split
    ·exact gq.none
    ·split
     ·exact gq.none
     ·split
      ·refine gq.Dq (hE _ _ _) _ _ _ fun cr=> ?_
       split
       ·exact gq.none
       ·split
        ·exact gq.one _
        ·exact gq.none
      ·exact gq.none
   ·exact gq.none
  ·split
   ·exact gq.none
   ·exact gq.one _
   ·exact gq.aJ (gq.one _) _
   ·split
    ·exact gq.one _
    ·exact gq.none
   ·split
    ·exact gq.aJ (gq.one _) _
    ·exact gq.none
theorem mR (hE:∀ f cb cJ,gq (E.fn f cb cJ)) (ops:Array Oper) (draw:Bool):∀ (l:List Oper) (s:St) (fp:List Fp),gq (fun k:St×List Fp->Option R=>gC X E ops draw l s fp fun s f=>k (s,f))
 | [],s,fp=>gq.one _
 | o::l,s,fp=>by
  simp only [gC]
  cases draw with
  | false=>exact (tW hE ops s o).bind (F:=fun x k=>gC X E ops false l ((s.app x.2.2.2).put o.dst (gd x.1 x.2.1 x.2.2.1)) fp fun s f=>k (s,f)) fun x=>mR hE ops false l _ _
  | true =>
   exact (tW hE ops (s.cut ops o) o).bind (F:=fun x k=>gC X E ops true l ((s.app x.2.2.2).put o.dst (gd x.1 x.2.1 x.2.2.1)) (fp++[iY ops s o x.2.2.1 x.2.2.2]) fun s f=>k (s,f))
    fun x=>mR hE ops true l _ _
theorem yT (hE:∀ f cb cJ,gq (E.fn f cb cJ)) (ops:Array Oper) (draw:Bool) (s:St):gq (fun k:St->Option R=>wX X E ops draw s k):=by
 simp only [wX]
 split
 ·exact gq.none
 ·cases draw with
  | false=>exact (mR (X:=X) hE ops false ops.toList s []).map (fun x:St×List Fp=>(⟨iT x.1.tm,x.1.vs,x.1.rs⟩:St))
  | true =>
   refine (mR (X:=X) hE ops true ops.toList s []).bind (F:=fun (x:St×List Fp) (k:St->Option R)=>match ot 0 ops.toList&&(sv (lA [] ops.toList) 0 ops.toList&&gw (lA [] ops.toList) 0 [] x.2) with
    | true=>k ⟨iT x.1.tm,x.1.vs,x.1.rs⟩
    | false=>Option.none) fun x=> ?_
   split
   ·exact gq.one _
   ·exact gq.none
theorem jq (hE:∀ f cb cJ,gq (E.fn f cb cJ)) (hL:∀ c i l,gq (fun k:Ex×St->Option R=>lp c i l fun e s=>k (e,s))):∀ (c:Code) (s:St),gq (fun k:Ex×St->Option R=>exec X E L lp c s fun e s=>k (e,s))
 | .skip,s=>gq.one _
 | .region _ ops draw,s=>(yT hE ops draw s).map fun s=>(Ex.normal,s)
 | .seq a b,s=>by
  simp only [exec]
  refine (jq hE hL a s).bind (F:=fun x k=>match x.1 with
   | .normal=>exec X E L lp b x.2 fun e s=>k (e,s)
   | e=>k (e,x.2)) fun x=> ?_
  obtain ⟨e,s'⟩:=x
  cases e with
  | normal=>exact jq hE hL b s'
  | _=>exact gq.one _
 | .cond c a b,s=>by
  simp only [exec]
  split
  ·rename_i x _
   cases x with
   | true=>exact jq hE hL a s
   | false=>exact jq hE hL b s
  ·exact gq.none
 | .block id c,s=>by
  simp only [exec]
  refine (jq hE hL c s).bind (F:=fun x k=>match x.1 with
   | .exit i=>match Nat.beq i id with
    | true=>k (.normal,x.2)
    | false=>k (x.1,x.2)
   | e=>k (e,x.2)) fun x=> ?_
  obtain ⟨e,s'⟩:=x
  cases e with
  | exit i =>
   simp only
   split
   ·exact gq.one _
   ·exact gq.one _
  | _=>exact gq.one _
 | .loop c,s=>by
  simp only [exec]
  split
  ·exact gq.none
  ·split
   ·exact hL _ _ _
   ·exact gq.none
 | .exit id,s=>gq.one _
 | .ret,s=>gq.one _
 | .rangeFunc ..,s=>gq.none
 | .scope _,s=>gq.none
 | .label _,s=>gq.none
 | .goto _,s=>gq.none
 | .refuse _,s=>gq.none
theorem LB (hE:∀ f cb cJ,gq (E.fn f cb cJ)) (hL:∀ c i l,gq (fun k:Ex×St->Option R=>lp c i l fun e s=>k (e,s))) (c:Code) (i:Nat) (l:List m7) :
  gq (fun k:Ex×St->Option R=>round X E L lp c i l fun e s=>k (e,s)):=by
 simp only [round]
 split
 ·exact gq.none
 ·rename_i A _
  split
  ·exact gq.none
  ·rename_i s _
   refine (jq hE hL c s).bind (F:=fun x k=>match x.1 with
    | .normal=>exec X E L lp (.loop c) x.2 fun e s=>k (e,s)
    | e=>k (e,A.leave e x.2)) fun x=> ?_
   obtain ⟨e,s'⟩:=x
   cases e with
   | normal=>exact jq hE hL (.loop c) s'
   | _=>exact gq.one _
end Go.Soft
namespace Go.Soft
open Go
variable {X:Ctx} {m M:Lk} {γ γ':Gh} {w w':World} {ρ:Operand->Value} {S:St} {δ:Dl}
theorem Of {ms:List Nat} (h:vD.le1 ms=true):(hd ms=0\/hd ms=1)/\vD.le1 (tl ms)=true:=by
 cases ms with
 | nil=>exact ⟨.inl rfl,rfl⟩
 | cons x l =>
  simp only [vD.le1,zB] at h
  have:=zQ h.1
  exact ⟨by simp only [hd]; omega,h.2⟩
theorem JV {vl:List (List Nat)} (h:vD vl=true):vD.le1 (nK vl)=true/\vD (tl vl)=true:=by
 cases vl with
 | nil=>exact ⟨rfl,rfl⟩
 | cons x l=>simp only [vD,zB] at h; exact h
theorem yX:∀ {cs:List Cv} {ms:List Nat} {k b:List Nat},vD.le1 ms=true->m.ku ms cs=some (k,b)->k=[]
 | [],ms,k,b,_,h=>by simp only [Lk.ku,zA,zG] at h; exact h.1.symm
 | c::cs,ms,k,b,hl,h=>by
  simp only [Lk.ku] at h
  obtain ⟨h0,h1⟩:=Of hl
  cases hr:m.ku (tl ms) cs with
  | none=>simp [hr] at h
  | some p =>
   obtain ⟨k0,b0⟩:=p
   have ih:=yX h1 hr
   simp only [hr] at h
   rcases h0 with h0 | h0<;>simp only [h0] at h<;>cases bo:c.row<;>simp only [bo,zA,zG] at h<;>rw [← h.1,ih]
theorem uJ:∀ {κ:List Nat} {vl:List (List Nat)} {k b:List Nat},vD vl=true->m.eH vl κ=some (k,b)->k=[]
 | [],vl,k,b,_,h=>by simp only [Lk.eH,zA,zG] at h; exact h.1.symm
 | v::κ,vl,k,b,hl,h=>by
  obtain ⟨l1,l2⟩:=JV hl
  simp only [Lk.eH] at h
  cases hv:m.v v with
  | none=>simp [hv] at h
  | some cs =>
   cases h1:m.ku (nK vl) cs with
   | none=>simp [hv,h1] at h
   | some p =>
    cases h2:m.eH (tl vl) κ with
    | none=>simp [hv,h1,h2] at h
    | some q =>
     obtain ⟨a1,b1⟩:=p
     obtain ⟨a2,b2⟩:=q
     simp only [hv,h1,h2,zA,zG] at h
     rw [← h.1,yX l1 h1,uJ l2 h2]; rfl
theorem Bk (hR:Rel X S.lk γ w) {f:Cv->Cv} {v:Nat}:∀ {cs:List Cv} {ms:List Nat} {j:Nat} {l:List Ct} {cs':List Cv} {rs:List (Nat×Row)},vD.le1 ms=true->m.iD cs=some l->dT f v j ms cs l=some (cs',rs) ->
  rs=[]/\∀ (m':Lk) (γ':Gh) (u:List Value),(∀ x v,bp S.lk γ x v->bp m' γ' (f x) v)->b9 S.lk γ cs u->b9 m' γ' cs' u
 | [],ms,j,l,cs',rs,_,hc,h=>by
  simp only [Lk.iD,zA] at hc; subst hc
  simp only [dT,zA,zG] at h; obtain ⟨rfl,rfl⟩:=h
  exact ⟨rfl,fun m' γ' u _ hu=>by cases hu; exact .nil⟩
 | c::cs,ms,j,l,cs',rs,hl,hc,h=>by
  simp only [Lk.iD] at hc
  cases h1:m.ct c with
  | none=>simp [h1] at hc
  | some y =>
   cases h2:m.iD cs with
   | none=>simp [h1,h2] at hc
   | some ys =>
    simp only [h1,h2,zA] at hc; subst hc
    simp only [dT] at h
    cases eB:dT f v (j+1) (tl ms) cs ys with
    | none=>simp [eB] at h
    | some p =>
     obtain ⟨cs2,rs2⟩:=p
     simp only [eB] at h
     obtain ⟨l0,l1⟩:=Of hl
     obtain ⟨ih1,ih2⟩:=Bk hR l1 h2 eB
     rcases l0 with l0 | l0
     ·simp only [l0] at h
      cases hf:kf y with
      | none=>simp [hf] at h
      | some x =>
       simp only [hf,zA,zG] at h
       obtain ⟨rfl,rfl⟩:=h
       refine ⟨ih1,fun m' γ' u hk hu=> ?_⟩
       cases hu with
       | cons hx hl =>
        refine .cons (Dc hf ?_) (ih2 m' γ' _ hk hl)
        by_cases hyu:y= .u
        ·subst hyu; exact .inl ⟨rfl,hx.one hR⟩
        ·right
         refine ⟨hyu,?_⟩
         have Qp:∀ τ xs,y≠ .l τ xs:=by rintro τ xs rfl; simp [kf] at hf
         have:=zY (M:=S.lk) (γ:=γ) h1 hyu Qp
         rw [this] at hx; exact hx
     ·simp only [l0,zA,zG] at h
      obtain ⟨rfl,rfl⟩:=h
      refine ⟨ih1,fun m' γ' u hk hu=> ?_⟩
      cases hu with
      | cons hx hl=>exact .cons (hk _ _ hx) (ih2 m' γ' _ hk hl)
theorem Dr (hm:Le m S.lk) (hR:Rel X S.lk γ w) {f:Cv->Cv}:∀ {κ:List Nat} {vl:List (List Nat)} {cJ:List (List Ct)} {vs:List (Nat×List Cv)} {rs:List (Nat×Row)},vD vl=true->m.uw vl κ=some cJ->m.fU f vl κ cJ=some (vs,rs) ->
  rs=[]/\∀ v cs',(v,cs')∈vs->∃ cs,S.lk.v v=some cs/\∀ (m':Lk) (γ':Gh) (u:List Value),(∀ x v,bp S.lk γ x v->bp m' γ' (f x) v)->b9 S.lk γ cs u->b9 m' γ' cs' u
 | [],vl,cJ,vs,rs,_,hi,h=>by
  simp only [Lk.uw,zA] at hi; subst hi
  simp only [Lk.fU,zA,zG] at h; obtain ⟨rfl,rfl⟩:=h
  exact ⟨rfl,fun v cs' hm=>by simp at hm⟩
 | v::κ,vl,cJ,vs,rs,hl,hi,h=>by
  obtain ⟨l1,l2⟩:=JV hl
  simp only [Lk.uw] at hi
  cases hv:m.v v with
  | none=>simp [hv] at hi
  | some cs =>
   cases hb:Nat.ble cs.length 63 with
   | false=>simp [hv,hb] at hi
   | true =>
    cases hc:m.iD cs with
    | none=>simp [hv,hb,hc] at hi
    | some l =>
     cases hr:m.uw (tl vl) κ with
     | none=>simp [hv,hb,hc,hr] at hi
     | some r =>
      simp only [hv,hb,hc,hr,zA] at hi; subst hi
      simp only [Lk.fU,hv] at h
      cases h1:dT f v 0 (nK vl) cs l with
      | none=>simp [h1] at h
      | some p =>
       cases h2:m.fU f (tl vl) κ r with
       | none=>simp [h1,h2] at h
       | some q =>
        obtain ⟨a1,r1⟩:=p
        obtain ⟨b1,q1⟩:=q
        simp only [h1,h2,zA,zG] at h
        obtain ⟨rfl,rfl⟩:=h
        obtain ⟨e1,e2⟩:=Bk hR l1 hc h1
        obtain ⟨e3,e4⟩:=Dr hm hR l2 hr h2
        refine ⟨by rw [e1,e3]; rfl,fun u cs' SQ=> ?_⟩
        rcases zI.1 SQ with SQ | SQ
        ·cases SQ; exact ⟨cs,hm.v _ _ hv,e2⟩
        ·exact e4 u cs' SQ
theorem Kx {τ:Ty} {xs:List (El τ)} (h:Pt (.l τ xs)=true):xs=[]:=by cases xs<;>simp_all [Pt]
theorem qw {f:Cv->Cv} {as:List AV} {lr:Bool}:∀ {ys:List Rc} {k:Nat} {ms:List Nat} {cs:List Cv} {rs:List (Nat×Row)},pG ys=true->kK f as lr k ms ys=some (cs,rs)->(∀ p∈rs,p.2.xs=[])/\∀ x∈keys rs,k<=x/\x<k+ys.length
 | [],k,ms,cs,rs,_,h=>by simp only [kK,zA,zG] at h; obtain ⟨rfl,rfl⟩:=h; simp [keys]
 | y::ys,k,ms,cs,rs,hn,h=>by
  simp only [kK] at h
  cases eB:kK f as lr (k+1) (tl ms) ys with
  | none=>simp [eB] at h
  | some p =>
   obtain ⟨cs2,rs2⟩:=p
   simp only [eB] at h
   have Vp:pG ys=true:=by cases y<;>simp_all [pG]
   obtain ⟨i1,i2⟩:=qw Vp eB
   have plain:rs=rs2->(∀ p∈rs,p.2.xs=[])/\∀ x∈keys rs,k<=x/\x<k+(y::ys).length:=by
    rintro rfl; exact ⟨i1,fun x hx=>by have:=i2 x hx; simp only [zR]; omega⟩
   have Pb:∀ row:Row,row.xs=[]->rs=(k,row)::rs2->(∀ p∈rs,p.2.xs=[])/\∀ x∈keys rs,k<=x/\x<k+(y::ys).length:=by
    rintro row bo rfl
    refine ⟨fun p hp=> ?_,fun x hx=> ?_⟩
    ·rcases zI.1 hp with rfl | hp
     ·exact bo
     ·exact i1 p hp
    ·simp only [keys,zI] at hx
     simp only [zR]
     rcases hx with rfl | hx
     ·omega
     ·have:=i2 x hx; omega
   cases y with
   | m y =>
    simp only [pG,zB] at hn
    cases y with
    | l τ xs =>
     simp only at h
     cases lr with
     | true=>simp only [zA,zG] at h; exact Pb _ (Kx hn.1) h.2.symm
     | false=>simp only [zA,zG] at h; exact plain h.2.symm
    | _=>simp only [kf,zA,zG] at h; exact plain h.2.symm
   | c y =>
    simp only [pG,zB] at hn
    cases y with
    | l τ xs=>simp only [zA,zG] at h; exact Pb _ (Kx hn.1) h.2.symm
    | _=>simp only [kf,zA,zG] at h; exact plain h.2.symm
   | _=>simp [pG] at hn
theorem BE {f:Cv->Cv} {as:List AV} {lr:Bool}:∀ {ys:List (Bool×List Rc)} {k:Nat} {ms:List (List Nat)} {ts:List (Bool×List Cv)} {rs:List (Nat×Row)},Fj ys=true->rE f as lr k ms ys=some (ts,rs) ->
  (∀ p∈rs,p.2.xs=[])/\∀ x∈keys rs,k<=x/\x<k+LO ys
 | [],k,ms,ts,rs,_,h=>by simp only [rE,zA,zG] at h; obtain ⟨rfl,rfl⟩:=h; simp [keys]
 | (b,l)::ys,k,ms,ts,rs,hn,h=>by
  simp only [Fj,zB] at hn
  simp only [rE] at h
  cases h1:kK f as lr k (nK ms) l with
  | none=>simp [h1] at h
  | some p =>
   cases h2:rE f as lr (k+l.length) (tl ms) ys with
   | none=>simp [h1,h2] at h
   | some q =>
    obtain ⟨cs1,rs1⟩:=p
    obtain ⟨ts2,rs2⟩:=q
    simp only [h1,h2,zA,zG] at h
    obtain ⟨rfl,rfl⟩:=h
    obtain ⟨a1,a2⟩:=qw hn.1 h1
    obtain ⟨b1,b2⟩:=BE hn.2 h2
    refine ⟨fun p hp=>(zH.1 hp).elim (a1 p) (b1 p),fun x hx=> ?_⟩
    rw [bx,zH] at hx
    simp only [LO,p5]
    rcases hx with hx | hx
    ·have:=a2 x hx; omega
    ·have:=b2 x hx; omega
theorem Ln {f:Cv->Cv} {as:List AV} {lr:Bool} {rl:List (List Nat)} {d:Nat} {res:RC} {av:AV} {rs:List (Nat×Row)} {vn:List (Nat×List Cv)} (hn:Pj res=true) (h:vW f as lr rl d res=some (av,rs,vn)) :
  vn=[]/\res.kv d=[]/\(∀ p∈rs,p.2.xs=[])/\∀ x∈keys rs,x∈res.keys d:=by
 cases res with
 | u=>simp only [vW,zA,zG] at h; obtain ⟨_,rfl,rfl⟩:=h; simp [keys,RC.kv]
 | c x =>
  simp only [vW] at h
  cases h1:kK f as lr (d*64) (nK rl) [x] with
  | none=>simp [h1] at h
  | some p =>
   obtain ⟨cs,rs1⟩:=p
   obtain ⟨a1,a2⟩:=qw hn h1
   simp only [h1] at h
   revert h; split
   ·rename_i heq
    simp only [zA,zG] at heq
    obtain ⟨rfl,rfl⟩:=heq
    intro h; simp only [zA,zG] at h; obtain ⟨_,rfl,rfl⟩:=h
    refine ⟨rfl,rfl,a1,fun x hx=> ?_⟩
    have:=a2 x hx
    simp only [RC.keys,zS]; simp at this; omega
   ·intro h; cases h
 | a l =>
  simp only [vW] at h
  cases h1:kK f as lr (d*64) (nK rl) l with
  | none=>simp [h1] at h
  | some p =>
   obtain ⟨cs,rs1⟩:=p
   obtain ⟨a1,a2⟩:=qw hn h1
   simp only [h1,zA,zG] at h
   obtain ⟨_,rfl,rfl⟩:=h
   exact ⟨rfl,rfl,a1,fun x hx=>by simp only [RC.keys,p5,tA]; exact a2 x hx⟩
 | t l =>
  simp only [vW] at h
  cases h1:rE f as lr (d*64) rl l with
  | none=>simp [h1] at h
  | some p =>
   obtain ⟨ts,rs1⟩:=p
   obtain ⟨a1,a2⟩:=BE hn h1
   simp only [h1,zA,zG] at h
   obtain ⟨_,rfl,rfl⟩:=h
   exact ⟨rfl,rfl,a1,fun x hx=>by simp only [RC.keys,tA]; exact a2 x hx⟩
 | np l=>simp [Pj] at hn
theorem QS (hR:Rel X S.lk γ w) (cj:∀ g,w.heap.size<=g->γ.O g=none) (hm:Le m S.lk) {g:tE} {iZ:List AV} {ar:AR} {cJ:List (List Ct)} {ow b:List Nat} {d:Nat} (hd:d<1500) {av:AV}
  (KP:m.uw g.vl ar.κ=some cJ) (Cm:m.s9 g ar=some (ow,b)) (ha:m.after g iZ ar ⟨g.dr,cJ,m.EW ar.io⟩ ow d=some (av,δ))
  (hl:vD g.vl=true) (hdr:Pj g.dr=true) (MT:ar.gone=[]) (Cq:ar.io=[]) (XV:ar.fz=[]):∃ γ',Step X S γ w δ γ' w:=by
 have tp:ow=[]:=by
  simp only [Lk.s9] at Cm
  cases ho:m.eH g.vl ar.κ with
  | none=>simp [ho] at Cm
  | some p =>
   obtain ⟨dL,b'⟩:=p
   have:=uJ hl ho
   simp only [ho] at Cm
   revert Cm; split
   ·intro h; simp only [zA,zG] at h; rw [← h.1,this]
   ·intro h; cases h
 subst tp
 simp only [Lk.after] at ha
 obtain ⟨δ0,hδ0⟩:∃ δ0,m.V7 ar g.dr [] d=δ0:=⟨_,rfl⟩
 rw [hδ0] at ha
 cases h1:m.fU δ0.map g.vl ar.κ cJ with
 | none=>simp [h1] at ha
 | some p1 =>
  obtain ⟨vs,r1⟩:=p1
  cases h2:m.nk ar.io (m.EW ar.io) with
  | none=>simp [h1,h2] at ha
  | some r2 =>
   cases h3:vW δ0.map iZ ar.lr g.rl d g.dr with
   | none=>simp [h1,h2,h3] at ha
   | some p3 =>
    obtain ⟨av',r3,vn⟩:=p3
    simp only [h1,h2,h3] at ha
    cases uU:fB (ar.gone++(keys r1++(keys r2++keys r3)))&&s6 100000 (g.dr.keys d) with
    | false=>simp [uU] at ha
    | true =>
     cases HT:jr ar.fz (keys r1++(keys r2++keys r3)) with
     | false=>simp [uU,HT] at ha
     | true =>
      simp only [uU,HT,zA,zG] at ha
      obtain ⟨rfl,hδ⟩:=ha
      obtain ⟨e1,q1⟩:=Dr hm hR hl KP h1
      obtain ⟨e3,e4,e5,e6⟩:=Ln hdr h3
      have e2:r2=[]:=by
       rw [Cq] at h2
       simp only [Lk.EW,Lk.nk,zA] at h2; exact h2.symm
      subst e1; subst e2; subst e3
      simp only [zB] at uU
      have Wl:=nU.1 uU.2
      have uU:=gH.1 uU.1
      simp only [MT,keys,List.nil_append] at uU
      have HC:δ.map=δ0.map:=by rw [← hδ]; funext x; cases x<;>rfl
      have hvsδ:δ.vs=vs:=by rw [← hδ]; simp
      have kV:δ.kr=g.dr.keys d++m.la ar.κ:=by rw [← hδ,← hδ0]; simp [Lk.V7,MT]
      have hkvδ:δ.kv=[]:=by rw [← hδ,← hδ0]; exact e4
      have D6:δ.mv=[]:=by rw [← hδ,← hδ0]; rfl
      have z9:∀ k,fh δ.rs k=(lk r3 k).map some:=by
       intro k
       rw [← hδ]
       show fh (Az ar.gone++(m.Th ar.fz++(mC []++(mC []++mC r3)))) k=_
       rw [MT,XV]
       simp only [Az,Lk.Th,mC,List.nil_append]
       exact yg uU k
      let γ':Gh:=⟨γ.O,fun k=>match lk r3 k with | some _=> .slice none 0 0 | none=>γ.rv k,fun k=>match lk r3 k with | some _=>[] | none=>γ.cv k,γ.vb⟩
      have vP:∀ k,lk r3 k=none->γ'.rv k=γ.rv k/\γ'.cv k=γ.cv k:=by
       intro k hk
       constructor
       ·show (match lk r3 k with | some _=>Value.slice none 0 0 | none=>γ.rv k)=_; rw [hk]
       ·show (match lk r3 k with | some _=>[] | none=>γ.cv k)=_; rw [hk]
      have Qu:∀ r,cd r δ.kr=false->lk r3 r=none:=by
       intro r hr
       rw [cH]
       intro MP
       have:r∈δ.kr:=by rw [kV]; exact List.mem_append_left _ (e6 r MP)
       rw [fb.2 this] at hr; cases hr
      have HP:∀ r,lk r3 r=none->(S.app δ).lk.r r=S.lk.r r:=by
       intro r hr; rw [kO,z9,hr]; rfl
      have pP:∀ x v,bp S.lk γ x v->bp (S.app δ).lk γ' (δ.map x) v:=by
       refine mA hR D6 (fun r row hr hk=> ?_) (fun r row row' hr hk _ cy=> ?_) (fun r hk _ _=>⟨fun row row' hr cy=> ?_⟩) (fun k cs hk _=>⟨?_,rfl⟩)
       ·exact ⟨⟨row,by rw [HP r (Qu r hk)]; exact hr⟩,(vP r (Qu r hk)).1⟩
       ·rw [HP r (Qu r hk),hr] at cy; cases cy; exact ⟨rfl,Nat.le_refl _⟩
       ·rw [HP r (Qu r hk),hr] at cy; cases cy
        intro e c' τ ys _ hc
        exact ⟨⟨ys,hc,Nat.le_refl _⟩,by rw [(vP r (Qu r hk)).2]⟩
       ·rw [nZ]
        cases fh δ.vs k with
        | some cs'=>exact ⟨cs',rfl⟩
        | none=>simp only [hk,Option.map_some]; exact ⟨_,rfl⟩
      have keep0:∀ x v,bp S.lk γ x v->bp (S.app δ).lk γ' (δ0.map x) v:=by rw [← HC]; exact pP
      refine ⟨γ',⟨⟨fun k cs hk=> ?_,fun k row hk=> ?_⟩,pP,⟨rfl,rfl,rfl,Nat.le_refl _,fun g hg _=>⟨rfl,rfl⟩,cj⟩,fun k row hk _=> ?_,fun k row hk HS=> ?_,fun k HS Jy=> ?_,fun _ _=>rfl,fun k cs hk _=>⟨rfl,(hR.vs k cs hk).1,rfl⟩⟩⟩
      ·rw [nZ,hvsδ] at hk
       cases hz:fh vs k with
       | none =>
        rw [hz] at hk
        cases hc:S.lk.v k with
        | none=>simp [hc] at hk
        | some cs0 =>
         simp only [hc,Option.map_some,zA] at hk; subst hk
         obtain ⟨hO,cur,e,mU,Ce⟩:=hR.vs k cs0 hc
         exact ⟨hO,cur,e,mU,Ce.map pP⟩
       | some cs1 =>
        rw [hz] at hk; simp only [zA] at hk; subst hk
        have eE:∀ (l:List (Nat×List Cv)),fh l k=some cs1->(k,cs1)∈l:=by
         intro l
         induction l with
         | nil=>intro h; simp [fh] at h
         | cons p l ih =>
          obtain ⟨j,u⟩:=p
          intro h
          simp only [fh] at h
          cases hl:fh l k with
          | some u2=>rw [hl] at h; simp only [zA] at h; subst h; exact zJ _ (ih hl)
          | none =>
           rw [hl] at h
           by_cases hj:j=k
           ·simp only [hj,if_true,zA] at h; subst h; subst hj; simp
           ·simp only [hj,if_false] at h; cases h
        obtain ⟨cs,iW,hq⟩:=q1 k cs1 (eE vs hz)
        obtain ⟨hO,cur,e,mU,Ce⟩:=hR.vs k cs iW
        exact ⟨hO,cur,e,mU,hq _ _ _ keep0 Ce⟩
      ·rw [kO,z9] at hk
       cases hl:lk r3 k with
       | none =>
        rw [hl] at hk
        obtain ⟨a1,a2⟩:=vP k hl
        rw [a1,a2]; exact hR.rs k row hk
       | some row2 =>
        rw [hl] at hk; simp only [Option.map_some] at hk; cases hk
        have a1:γ'.rv k= .slice none 0 0:=by show (match lk r3 k with | some _=>Value.slice none 0 0 | none=>γ.rv k)=_; rw [hl]
        have a2:γ'.cv k=[]:=by show (match lk r3 k with | some _=>[] | none=>γ.cv k)=_; rw [hl]
        have Tv:=e5 _ (cM hl)
        obtain ⟨τ,xs,ow⟩:=row
        simp only at Tv; subst Tv
        rw [a1,a2]; exact cS.nil _ _ _ _ _ _
      ·rw [z9] at hk
       cases hl:lk r3 k with
       | none=>exact vP k hl
       | some row2=>rw [hl] at hk; cases hk
      ·rw [z9] at hk
       cases hl:lk r3 k with
       | none=>rw [hl] at hk; cases hk
       | some row2=>exact Wl k (e6 k (mem_keys (cM hl)))
      ·refine (vP k ?_).1
       rw [cH]; intro MP
       have:=Wl k (e6 k MP); omega
def tv (a:Act) (p:List (Nat×Bool)):Prop:=∀ x∈p,a.tmps.getD x.1 undef= .bool x.2
structure yt (D:List Nat) (S:St) (a:Act):Prop where
 g:∀ t p q v,lk S.tm t=some (.g p q v)->(∀ x∈p,x.1∈D)/\(q=true↔tv a p)
theorem FQ {a:Act}:∀ {p P:List (Nat×Bool)},A6 p P=true->tv a P->tv a p
 | [],P,_,_=>fun x hx=>by simp at hx
 | (t,x)::p,[],h,_=>by simp [A6] at h
 | (t,x)::p,(u,y)::P,h,hP=>by
  simp only [A6,zB] at h
  have ht:=aF h.1
  subst ht
  have MQ:x=y:=by cases x<;>cases y<;>simp_all
  subst MQ
  intro z hz
  rcases zI.1 hz with rfl | hz
  ·exact hP _ zO
  ·exact FQ h.2.2 (fun u hu=>hP u (zJ _ hu)) z hz
theorem J9 (hR:Rel X S.lk γ w) (cj:∀ g,w.heap.size<=g->γ.O g=none):Step X S γ w Dl.z γ w:=by
 have e:S.app Dl.z=S:=rfl
 refine ⟨by rw [e]; exact hR,fun x v hx=>by rw [e,tD rfl]; exact hx,⟨rfl,rfl,rfl,Nat.le_refl _,fun _ _ _=>⟨rfl,rfl⟩,cj⟩,fun _ _ _ _=>⟨rfl,rfl⟩,fun k row h=>(by cases h),fun _ _ _=>rfl,fun _ _=>rfl,fun k cs hk _=>⟨rfl,(hR.vs k cs hk).1,rfl⟩⟩
theorem xG {v:AV} {u:Value} (h:bn M γ v u):bn M γ (uS v) u:=by
 cases v<;>first | exact h | exact trivial
theorem Ee {p:List (Nat×Bool)} {q:Bool} {v:AV} {u:Value} (hq:q=true) (h:bn M γ v u):bn M γ (gd p q v) u:=by
 cases p with
 | nil=>exact xG h
 | cons x p=>exact ⟨fun _=>h,fun e=>by rw [hq] at e; cases e⟩
theorem JP {p:List (Nat×Bool)} {v:AV} (hp:p≠[]):bn M γ (gd p false v) undef:=by
 cases p with
 | nil=>exact absurd rfl hp
 | cons x p=>exact ⟨fun e=>(by cases e),fun _=>rfl⟩
theorem iR {R α:Type} (r0:R) {x y:α} (h:∀ K:α->Option R,K x=K y):x=y:=by
 classical
 have:=h fun z=>if z=x then some r0 else none
 simp only [if_true] at this
 by_cases hy:y=x
 ·exact hy.symm
 ·simp [hy] at this
theorem bN {R α:Type} (r0:R) {y:α} (h:∀ K:α->Option R,none=K y):False:=by
 have:=h fun _=>some r0
 simp at this
section
variable {R:Type} {E:Env R} {ops:Array Oper} {s':St} {a:Act} {D:List Nat}
theorem get_some {t:Nat} {v:AV} (h:s'.get t=v) (hv:v≠ .c .un):lk s'.tm t=some v:=by
 simp only [St.get] at h
 cases hl:lk s'.tm t with
 | some u=>simp only [hl] at h; rw [h]
 | none=>simp only [hl] at h; exact absurd h.symm hv
theorem Pf (hT:E7 X S γ a) (hG:yt D S a) (ht:∀ t av,lk s'.tm t=some av->lk S.tm t=some av) {o:Oper} (HI:∀ j w,o.guard=some (j,w)->∀ oj t,ops[j]? =some oj->oj.dst=some t->t∈D)
  {p:List (Nat×Bool)} {q:Bool} (h:xK ops s' o.guard=some (p,q)) :
  (∀ x∈p,x.1∈D)/\(q=true↔tv a p)/\Region.wanted o (yielded ops a.tmps)=q/\(p=[]->q=true):=by
 simp only [Region.wanted]
 cases hg:o.guard with
 | none =>
  rw [hg] at h
  simp only [xK,zA,zG] at h
  obtain ⟨rfl,rfl⟩:=h
  exact ⟨by simp,by simp [tv],rfl,fun _=>rfl⟩
 | some jw =>
  obtain ⟨j,want⟩:=jw
  rw [hg] at h
  simp only [xK] at h
  cases hj:ops[j]? with
  | none=>simp [hj] at h
  | some oj =>
   simp only [hj] at h
   cases hd:oj.dst with
   | none=>simp [hd] at h
   | some t =>
    simp only [hd] at h
    have hD:=HI j want hg oj t hj hd
    have hy:∀ x,a.tmps.getD t undef= .bool x->yielded ops a.tmps j=some x:=by
     intro x hx
     have:a.tmps[t]? =some (.bool x):=by
      rw [Array.getD_eq_getD_getElem?] at hx
      cases hh:a.tmps[t]? with
      | none=>rw [hh] at hx; cases hx
      | some v=>rw [hh] at hx; simp only [Option.getD_some] at hx; rw [hx]
     simp only [yielded,hj,Option.bind_some,hd,this]
    have hyn:a.tmps.getD t undef=undef->yielded ops a.tmps j=none:=by
     intro hx
     simp only [yielded,hj,Option.bind_some,hd]
     rw [Array.getD_eq_getD_getElem?] at hx
     cases hh:a.tmps[t]? with
     | none=>rfl
     | some v =>
      rw [hh] at hx; simp only [Option.getD_some] at hx; subst hx; rfl
    revert h; split
    ·rename_i x hx
     intro h
     simp only [zA,zG] at h
     obtain ⟨rfl,rfl⟩:=h
     have hv:=hT.2 t _ (ht t _ (get_some hx (by simp)))
     have hv:a.tmps.getD t undef= .bool x:=hv
     refine ⟨by simpa using hD,?_,?_,by simp⟩
     ·simp only [tv,zS,forall_eq,hv,Value.bool.injEq]
      cases want<;>cases x<;>simp
     ·show (yielded ops a.tmps j==some want)=_
      rw [hy x hv]; cases want<;>cases x<;>rfl
    ·rename_i p' q' x hx
     intro h
     simp only [zA,zG] at h
     obtain ⟨rfl,rfl⟩:=h
     have hl:=ht t _ (get_some hx (by simp))
     obtain ⟨g1,g2⟩:=hG.g t _ _ _ hl
     have hv:=hT.2 t _ hl
     refine ⟨fun y hy=> ?_,?_,?_,by simp⟩
     ·rcases zH.1 hy with hy | hy
      ·exact g1 y hy
      ·simp at hy; rw [hy]; exact hD
     ·simp only [tv,zH,zS]
      cases hq:q' with
      | true =>
       have hv:a.tmps.getD t undef= .bool x:=hv.1 hq
       have QK:=g2.1 hq
       constructor
       ·intro h y hy
        rcases hy with hy | hy
        ·exact QK y hy
        ·rw [hy,hv]; cases want<;>cases x<;>simp_all
       ·intro h
        have:=h (t,want) (.inr rfl)
        rw [hv] at this
        simp only [Value.bool.injEq] at this
        subst this; cases x<;>rfl
      | false =>
       have:¬ tv a p':=fun h=>by have:=g2.2 h; rw [hq] at this; cases this
       simp only [Bool.false_and,Bool.false_eq_true,false_iff]
       exact fun h=>this fun y hy=>h y (.inl hy)
     ·cases hq:q' with
      | true =>
       have hv:a.tmps.getD t undef= .bool x:=hv.1 hq
       show (yielded ops a.tmps j==some want)=_
       rw [hy x hv]; cases want<;>cases x<;>rfl
      | false =>
       have hv:a.tmps.getD t undef=undef:=hv.2 hq
       show (yielded ops a.tmps j==some want)=_
       rw [hyn hv]; cases want<;>cases x<;>rfl
    ·intro h; cases h
theorem rZ (hT:E7 X S γ a) (hG:yt D S a) (ht:∀ t av,lk s'.tm t=some av->lk S.tm t=some av) {p:List (Nat×Bool)} (hp:tv a p) (ty:TypeId) (x:Operand):bn S.lk γ (X.yd s' p ty x) (a.eval x) :=
 Rg (M:=S.lk) (fun t av h=>hT.2 t av (ht t av h)) p (fun t p' q v h hi=>(hG.g t p' q v (ht t _ h)).2.2 (FQ hi hp)) ty x
theorem Jk {P:Program} {f:FuncId} (h:u0 P f) (args:Array Value) (w:World):(callFunc f args).run P w= .ok (.enter f args) w:=by
 obtain ⟨fn,h1,h2,h3⟩:=h
 have Jy:¬ fn.name = "runtime.NumGoroutine" := by simpa using h2
 have K7:¬ fn.body=none:=by cases hb:fn.body<;>simp_all
 simp [callFunc,h1,Jy,K7]
theorem Li {p:List (Nat×Bool)} {g:tE} {ar:AR} {v:AV} (hp:p≠[]) (h:Bg p g ar v=true):vD g.vl=true/\Pj g.dr=true/\ar.gone=[]/\ar.io=[]/\ar.fz=[]:=by
 cases p with
 | nil=>exact absurd rfl hp
 | cons x p =>
  simp only [Bg,zB] at h
  obtain ⟨a1,a2,a3⟩:=h
  refine ⟨a1,a2,?_⟩
  revert a3; split
  ·simp
  ·intro _; exact ⟨by assumption,by assumption,by assumption⟩
  ·simp
theorem Ki (r0:R) (hX:iy X) (hE:te X E) (hR:Rel X S.lk γ w) (cj:∀ g,w.heap.size<=g->γ.O g=none) (hT:E7 X S γ a) (hG:yt D S a) (hm:Le s'.lk S.lk)
  (ht:∀ t av,lk s'.tm t=some av->lk S.tm t=some av) {o:Oper} (hnt:X.nt<=1500) (abQ:∀ d,o.dst=some d->d<X.nt) (HI:∀ j w,o.guard=some (j,w)->∀ oj t,ops[j]? =some oj->oj.dst=some t->t∈D)
  {p:List (Nat×Bool)} {q:Bool} {v:AV} (rQ:∀ K:List (Nat×Bool)×Bool×AV×Dl->Option R,(AZ X E ops s' o fun p q v δ=>K (p,q,v,δ))=K (p,q,v,δ)) {next:Act->World->Prop} {Q:Exit->Act->World->Prop}
  (hn:∀ γ' w' u,Step X S γ w δ γ' w'->bn (S.app δ).lk γ' (gd p q v) u->next (a.put o.dst u) w') :
  ((∀ x∈p,x.1∈D)/\(q=true↔tv a p))/\(if Region.wanted o (yielded ops a.tmps) then o.wp X.P a w next Q else next (a.put o.dst undef) w):=by
 have Jr:(match o.dst with | some d=>d | none=>0)<1500:=by
  cases hd:o.dst with
  | none=>simp
  | some d=>exact Nat.lt_of_lt_of_le (abQ d hd) hnt
 simp only [AZ] at rQ
 cases hg:xK ops s' o.guard with
 | none=>simp only [hg] at rQ; exact (bN r0 rQ).elim
 | some pq =>
  obtain ⟨p0,q0⟩:=pq
  simp only [hg] at rQ
  obtain ⟨g1,g2,g3,g4⟩:=Pf hT hG ht HI hg
  have fin:∀ {v0:AV} {δ0:Dl},(∀ K:List (Nat×Bool)×Bool×AV×Dl->Option R,K (p0,q0,v0,δ0)=K (p,q,v,δ))->p0=p/\q0=q/\v0=v/\δ0=δ:=by
   intro v0 δ0 h
   have:=iR r0 h
   simp only [zG] at this
   exact this
  have plain:∀ {v0:AV},(q0=true->Good (bY X (fun e=>X.yd s' (p0++e)) s'.lk (match o.dst with | some d=>d | none=>0) o.type o.op) v0) ->
    (∀ K:List (Nat×Bool)×Bool×AV×Dl->Option R,K (p0,q0,v0,Dl.z)=K (p,q,v,δ)) ->
    ((∀ x∈p,x.1∈D)/\(q=true↔tv a p))/\(if Region.wanted o (yielded ops a.tmps) then o.wp X.P a w next Q else next (a.put o.dst undef) w):=fun YI hK=>by
   obtain ⟨rfl,rfl,rfl,rfl⟩:=fin hK
   refine ⟨⟨g1,g2⟩,?_⟩
   have e:S.app Dl.z=S:=rfl
   rw [g3]
   cases hq:q0 with
   | true =>
    have QK:=g2.1 hq
    obtain ⟨u,hu,hr⟩:=Q3 hX hm hR (evp:=fun e=>X.yd s' (p0++e)) (fun ty x=>by rw [List.append_nil]; exact rZ hT hG ht QK ty x)
     (fun ty t x xa xb hx=>by
      have hv:=rZ hT hG ht QK ty (.tmp t)
      simp only [List.append_nil] at hx
      rw [hx] at hv
      have hv:a.eval (.tmp t)= .bool x:=hv
      have SR:tv a (p0++[(t,x)]):=by
       intro y hy
       rcases zH.1 hy with hy | hy
       ·exact QK y hy
       ·simp at hy; rw [hy]; exact hv
      exact ⟨fun hx=>by rw [hx] at SR; exact rZ hT hG ht SR ty xa,fun hx=>by rw [hx] at SR; exact rZ hT hG ht SR ty xb⟩) (YI hq)
    simp only [if_true,Oper.wp,hu,Oper.upon]
    exact hn γ w u (J9 hR cj) (by rw [e]; exact Ee (by first | rfl | exact hq) hr)
   | false =>
    have hp:p0≠[]:=fun h=>by have:=g4 h; rw [hq] at this; cases this
    simp only [Bool.false_eq_true,if_false]
    exact hn γ w undef (J9 hR cj) (by rw [hq]; exact JP hp)
  have WS:∀ {v0:AV} {δ0:Dl},p0=[]->(bY X (fun e=>X.yd s' (p0++e)) s'.lk (match o.dst with | some d=>d | none=>0) o.type o.op= .w0 v0 δ0\/bY X (fun e=>X.yd s' (p0++e)) s'.lk (match o.dst with | some d=>d | none=>0) o.type o.op= .w true v0 δ0) ->
    (∀ K:List (Nat×Bool)×Bool×AV×Dl->Option R,K (p0,q0,v0,δ0)=K (p,q,v,δ)) ->
    ((∀ x∈p,x.1∈D)/\(q=true↔tv a p))/\(if Region.wanted o (yielded ops a.tmps) then o.wp X.P a w next Q else next (a.put o.dst undef) w):=fun lG pO hK=>by
   obtain ⟨rfl,rfl,rfl,rfl⟩:=fin hK
   refine ⟨⟨g1,g2⟩,?_⟩
   have hq:=g4 lG
   rw [g3,hq]
   have QK:=g2.1 hq
   obtain ⟨r,u,w',γ',h1,h2,h3,h4⟩:=Ul hX hR cj hm (ρ:=a.eval) (fun ty x=>by rw [List.append_nil]; exact rZ hT hG ht QK ty x) Jr pO
   simp only [if_true,Oper.wp,h1]
   rcases h2 with rfl | ⟨rfl,rfl⟩
   ·simp only [Oper.upon]; exact hn γ' w' u h4 (Ee hq h3)
   ·simp only [Oper.upon]; exact hn γ' w' undef h4 (Ee hq h3)
  revert rQ; split
  ·
   rename_i f args argTypes K5
   split
   ·rename_i fid caps Zi
    split
    ·intro rQ; exact (bN r0 rQ).elim
    ·rename_i sig ac1
     split
     ·intro rQ; exact (bN r0 rQ).elim
     ·rename_i ar P9
      split
      ·rename_i cJ ow bb KP Cm Pz
       intro rQ
       have Zi:X.yd s' (p0++[]) 0 f= .c (.fn fid caps):=Zi
       let iZ:=rP (X.yd s' (p0++[]) 0) args.toList++rP (fun v=>AV.c (.pv v 0)) caps
       let c:bL:=⟨s'.lk,sig,iZ,ar,cJ,ow,bb⟩
       simp only [zB] at Pz
       have xi:c.Ok:=⟨P9,KP,Cm,zQ Pz.1,zQ Pz.2⟩
       obtain ⟨Qn,acL⟩:=hE.fn fid sig ac1
       have after:∀ cr:CR,(∀ K:List (Nat×Bool)×Bool×AV×Dl->Option R,(match s'.lk.after sig iZ ar cr ow (match o.dst with | some d=>d | none=>0) with
         | none=>none
         | some (v,δ)=>match Bg p0 sig ar v with
          | true=>K (p0,q0,v,δ)
          | false=>none)=K (p,q,v,δ)) ->
         p0=p/\q0=q/\s'.lk.after sig iZ ar cr ow (match o.dst with | some d=>d | none=>0)=some (v,δ)/\Bg p sig ar v=true:=by
        intro cr hK
        cases ha:s'.lk.after sig iZ ar cr ow (match o.dst with | some d=>d | none=>0) with
        | none=>simp only [ha] at hK; exact (bN r0 hK).elim
        | some vd =>
         obtain ⟨v0,δ0⟩:=vd
         simp only [ha] at hK
         cases zp:Bg p0 sig ar v0 with
         | false=>simp only [zp] at hK; exact (bN r0 hK).elim
         | true =>
          simp only [zp] at hK
          obtain ⟨rfl,rfl,rfl,rfl⟩:=fin hK
          exact ⟨rfl,rfl,rfl,zp⟩
       have comes:q0=true->(∀ K:List (Nat×Bool)×Bool×AV×Dl->Option R,(E.fn fid ar.cb cJ fun cr=>match s'.lk.after sig iZ ar cr ow (match o.dst with | some d=>d | none=>0) with
         | none=>none
         | some (v,δ)=>match Bg p0 sig ar v with
          | true=>K (p0,q0,v,δ)
          | false=>none)=K (p,q,v,δ)) ->
         ((∀ x∈p,x.1∈D)/\(q=true↔tv a p))/\(if Region.wanted o (yielded ops a.tmps) then o.wp X.P a w next Q else next (a.put o.dst undef) w):=by
        intro hq hK
        obtain ⟨oc,rh⟩:=hE.FC fid ar.cb cJ
        cases oc with
        | none=>exact (bN r0 fun K=>by have:=hK K; rw [rh] at this; exact this).elim
        | some cr =>
         have QH:=after cr fun K=>by have:=hK K; rw [rh] at this; exact this
         obtain ⟨rfl,rfl,ha,_⟩:=QH
         refine ⟨⟨g1,g2⟩,?_⟩
         rw [g3,hq]
         have QK:=g2.1 hq
         have Zo:=rZ hT hG ht QK 0 f
         rw [List.append_nil] at Zi
         rw [Zi] at Zo
         obtain ⟨SH,Zo⟩:=Zo
         let vals:=args.toList.map a.eval++caps.map fun k=>Value.pointer (some ⟨γ.vb k,0,none⟩)
         have ni:(execOp a.eval o).run X.P w= .ok (.enter fid vals.toArray) w:=by
          have he:execOp a.eval o=(do let d←resolve a.eval ⟨.value f,args,argTypes⟩ o.type; invoke d.target d.args):=by
           simp only [execOp,K5]
          rw [he]
          simp only [resolve,Sem.run_bind,Deferred.ofValue,Zo,Sem.run_pure,Result.andThen_ok,invoke]
          rw [Jk acL]
          congr 2
          apply Array.toList_inj.1
          simp [vals]
         have Vi:lC S.lk γ iZ vals:=by
          have h1:∀ l:List Operand,lC S.lk γ (rP (X.yd s' (p0++[]) 0) l) (l.map a.eval):=by
           intro l
           induction l with
           | nil=>exact .nil
           | cons x l ih=>exact .cons (by rw [List.append_nil]; exact rZ hT hG ht QK 0 x) ih
          have h2:∀ l:List Nat,(∀ k∈l,∃ cs,S.lk.v k=some cs)->lC S.lk γ (rP (fun v=>AV.c (.pv v 0)) l) (l.map fun k=>Value.pointer (some ⟨γ.vb k,0,none⟩)):=by
           intro l
           induction l with
           | nil=>intro _; exact .nil
           | cons x l ih=>intro h; exact .cons ⟨h x zO,rfl⟩ (ih fun k hk=>h k (zJ _ hk))
          have acH:∀ {l l':List AV} {u u':List Value},lC S.lk γ l u->lC S.lk γ l' u'->lC S.lk γ (l++l') (u++u'):=by
           intro l l' u u' h h'
           induction h with
           | nil=>exact h'
           | cons hx _ ih=>exact .cons hx ih
          exact acH (h1 _) (h2 _ SH)
         have XW:c.HQ X S γ w vals:=⟨xi,hm,hR,cj,Vi⟩
         simp only [if_true,Oper.wp,ni,Oper.upon]
         refine (Qn.ok ar.cb cJ cr (fun k=>by rw [rh]; rfl) _ w vals XW.pre).mono ?_
         rintro e w1 ⟨u,rfl,X4⟩
         obtain ⟨γ',pO,hr⟩:=RH XW X4 Jr ha
         exact hn γ' w1 u pO (Ee hq hr)
       by_cases YG:p0=[]
       ·have YF:∀ (f:(CR->Option R)->Option R) (d:CR) (k:CR->Option R),Dq p0 q0 f d k=f k:=by intro f d k; rw [YG]
        exact comes (g4 YG) fun K=>by have:=rQ K; rw [YF] at this; exact this
       ·have YF:∀ (f:(CR->Option R)->Option R) (d:CR) (k:CR->Option R),Dq p0 q0 f d k=f fun cr=>match Ij q0 cr d with | some c=>k c | none=>none:=by
         intro f d k; cases lG:p0 with
         | nil=>exact absurd lG YG
         | cons x p1=>rfl
        obtain ⟨oc,rh⟩:=hE.FC fid ar.cb cJ
        cases oc with
        | none=>exact (bN r0 fun K=>by have:=rQ K; rw [YF,rh] at this; exact this).elim
        | some cr1 =>
        cases qe:Ij q0 cr1 ⟨sig.dr,cJ,s'.lk.EW ar.io⟩ with
        | none=>exact (bN r0 fun K=>by have:=rQ K; rw [YF,rh] at this; simp only [Option.bind,qe] at this; exact this).elim
        | some c1 =>
        have Yk:=fun K=>by have:=rQ K; rw [YF,rh] at this; simp only [Option.bind,qe] at this; exact this
        have qe:=Rh qe
        rcases Bool.eq_false_or_eq_true q0 with hq | hq
        ·have cf:c1=cr1:=by rw [qe,hq]; rfl
         exact comes hq fun K=>by have:=Yk K; rw [cf] at this; rw [rh]; exact this
        ·have cf:c1=⟨sig.dr,cJ,s'.lk.EW ar.io⟩:=by rw [qe,hq]; rfl
         have VR:=after ⟨sig.dr,cJ,s'.lk.EW ar.io⟩ fun K=>by have:=Yk K; rw [cf] at this; exact this
         obtain ⟨rfl,rfl,ha,zp⟩:=VR
         rw [hq] at g3
         refine ⟨⟨g1,g2⟩,?_⟩
         rw [g3]
         simp only [Bool.false_eq_true,if_false]
         have acF:=Li YG zp
         obtain ⟨b1,b2,b3,b4,b5⟩:=acF
         obtain ⟨γ',pO⟩:=QS hR cj hm Jr KP Cm ha b1 b2 b3 b4 b5
         exact hn γ' w undef pO (by rw [hq]; exact JP YG)
      ·intro rQ; exact (bN r0 rQ).elim
   ·intro rQ; exact (bN r0 rQ).elim
  ·
   split
   ·intro rQ; exact (bN r0 rQ).elim
   ·rename_i v0 pO
    intro rQ
    exact plain (fun _=> .inl pO) rQ
   ·rename_i c v0 pO
    intro rQ
    cases hc:ck p0 q0 c with
    | false=>exact (bN r0 fun K=>by have:=rQ K; rw [hc] at this; exact this).elim
    | true =>
     refine plain (fun hq=> .inr ?_) (fun K=>by have:=rQ K; rw [hc] at this; exact this)
     have:c=true:=by
      simp only [ck] at hc
      revert hc; split
      ·exact id
      ·rw [hq]; simp
     rw [← this]; exact pO
   ·rename_i v0 δ0 pO
    cases lG:p0 with
    | nil=>intro rQ; exact WS lG (.inl (by rw [lG]; rw [lG] at pO; exact pO)) (fun K=>by rw [lG]; exact rQ K)
    | cons x p1=>intro rQ; exact (bN r0 rQ).elim
   ·rename_i c v0 δ0 pO
    cases lG:p0 with
    | nil =>
     intro rQ
     cases hc:c with
     | false=>exact (bN r0 fun K=>by have:=rQ K; rw [hc] at this; exact this).elim
     | true=>exact WS lG (.inr (by rw [lG]; rw [lG,hc] at pO; exact pO)) (fun K=>by rw [lG]; have:=rQ K; rw [hc] at this; exact this)
    | cons x p1=>intro rQ; exact (bN r0 rQ).elim
end
end Go.Soft
namespace Go.Soft
open Go
variable {X:Ctx} {m M:Lk} {γ γ':Gh} {w w':World} {ρ:Operand->Value} {S:St} {δ:Dl}
structure Inv (X:Ctx) (e0:Lk) (γ0:Gh) (w0:World) (S:St) (γ:Gh) (a:Act) (w:World):Prop where
 rel:Rel X S.lk γ w
 top:∀ g,w.heap.size<=g->γ.O g=none
 tmp:E7 X S γ a
 df:a.defers=[]
 fr:Fr γ0.O w0 γ.O w
 i3:∀ k row,100000<=k->k<400000->S.lk.r k=some row->row.ow=1->e0.r k=some row/\γ.rv k=γ0.rv k/\γ.cv k=γ0.cv k
 i4:∀ k,200000<=k->k<300000->γ.rv k=γ0.rv k
 i2:∀ k,k<1000->γ.vb k=γ0.vb k
theorem Jl (S:St) (d:Option Nat) (v:AV):(S.put d v).lk=S.lk:=by cases d<;>rfl
theorem Ir (S:St) (d:Option Nat) (v:AV) (t:Nat):lk (S.put d v).tm t=if d=some t then some v else lk S.tm t:=by
 cases d with
 | none=>simp [St.put]
 | some d =>
  show (match Nat.beq d t with | true=>some v | false=>lk S.tm t)=_
  cases h:Nat.beq d t with
  | true=>have:=aF h; subst this; simp
  | false =>
   have:d≠t:=by rintro rfl; rw [Nat.beq_refl] at h; cases h
   simp [this]
theorem JI (a:Act) (d:Option Nat) (u:Value) (t:Nat) (hd:∀ x,d=some x->x<a.tmps.size):(a.put d u).tmps.getD t undef=if d=some t then u else a.tmps.getD t undef:=by
 cases d with
 | none=>simp [Act.put]
 | some d =>
  have:=hd d rfl
  simp only [Act.put,Array.getD_eq_getD_getElem?,Array.getElem?_setIfInBounds]
  by_cases h:d=t
  ·subst h; simp [this]
  ·simp [h]
theorem Np (a:Act) (d:Option Nat) (u:Value):(a.put d u).tmps.size=a.tmps.size:=by cases d<;>simp [Act.put]
theorem UY (a:Act) (d:Option Nat) (u:Value):(a.put d u).defers=a.defers:=by cases d<;>rfl
section
variable {e0:Lk} {γ0:Gh} {w0:World} {a:Act}
theorem Inv.step (hI:Inv X e0 γ0 w0 S γ a w) (hs:Step X S γ w δ γ' w') {d:Option Nat} (hd:∀ x,d=some x->x<X.nt) {v:AV} {u:Value} (hu:bn (S.app δ).lk γ' v u) :
  Inv X e0 γ0 w0 ((S.app δ).put d v) γ' (a.put d u) w':=by
 have z9:=Jl (S.app δ) d v
 have mn:∀ x,d=some x->x<a.tmps.size:=fun x hx=>Nat.lt_of_lt_of_le (hd x hx) hI.tmp.1
 refine ⟨by rw [z9]; exact hs.rel,hs.fr.top,⟨by rw [Np]; exact hI.tmp.1,fun t av ht=> ?_⟩,by rw [UY]; exact hI.df,hI.fr.trans hs.fr,fun k row h1 h2 hr ho=> ?_,fun k h1 h2=> ?_,fun k hk=> ?_⟩
 ·rw [Ir] at ht
  rw [JI a d u t mn,z9]
  by_cases h:d=some t
  ·rw [if_pos h] at ht ⊢; cases ht; exact hu
  ·rw [if_neg h] at ht ⊢
   rw [Oy] at ht
   cases hl:lk S.tm t with
   | none=>rw [hl] at ht; cases ht
   | some av0 =>
    rw [hl] at ht; simp only [Option.map_some,zA] at ht; subst ht
    exact (hI.tmp.2 t av0 hl).map hs.pP (by rfl)
 ·rw [z9,kO] at hr
  cases hz:fh δ.rs k with
  | some r =>
   rw [hz] at hr; simp only at hr; subst hr
   have:=hs.k1 k row hz ho; omega
  | none =>
   rw [hz] at hr
   obtain ⟨a1,a2,a3⟩:=hI.i3 k row h1 h2 hr ho
   obtain ⟨b1,b2⟩:=hs.kp k row hz hr
   exact ⟨a1,b1.trans a2,b2.trans a3⟩
 ·exact (hs.io k h1 h2).trans (hI.i4 k h1 h2)
 ·exact (hs.vb k hk).trans (hI.i2 k hk)
theorem yt.step {D:List Nat} (hG:yt D S a) {d:Option Nat} {D':List Nat} (hD:∀ x∈D,x∈D') (hd:∀ x,d=some x->x∉D/\x<a.tmps.size) {p:List (Nat×Bool)} {q:Bool} {v:AV} {u:Value}
  (hp:(∀ x∈p,x.1∈D)/\(q=true↔tv a p)):yt D' ((S.app δ).put d (gd p q v)) (a.put d u):=by
 have stable:∀ p':List (Nat×Bool),(∀ x∈p',x.1∈D)->(tv (a.put d u) p'↔tv a p'):=by
  intro p' yy
  have:∀ x∈p',(a.put d u).tmps.getD x.1 undef=a.tmps.getD x.1 undef:=by
   intro x hx
   rw [JI a d u x.1 fun y hy=>(hd y hy).2]
   rw [if_neg]
   intro h
   exact (hd x.1 h).1 (yy x hx)
  exact ⟨fun h x hx=>by rw [← this x hx]; exact h x hx,fun h x hx=>by rw [this x hx]; exact h x hx⟩
 refine ⟨fun t p' q' v' ht=> ?_⟩
 rw [Ir] at ht
 by_cases h:d=some t
 ·rw [if_pos h] at ht
  simp only [zA] at ht
  have:p'=p/\q'=q:=by
   cases p with
   | nil=>exfalso; revert ht; cases v<;>simp [gd,uS]
   | cons x p=>simp only [gd,AV.g.injEq] at ht; exact ⟨ht.1.symm,ht.2.1.symm⟩
  obtain ⟨rfl,rfl⟩:=this
  exact ⟨fun x hx=>hD _ (hp.1 x hx),hp.2.trans (stable p' hp.1).symm⟩
 ·rw [if_neg h,Oy] at ht
  cases hl:lk S.tm t with
  | none=>rw [hl] at ht; cases ht
  | some av =>
   rw [hl] at ht; simp only [Option.map_some,zA] at ht
   cases av with
   | g p0 q0 v0 =>
    simp only [km,AV.g.injEq] at ht
    obtain ⟨rfl,rfl,_⟩:=ht
    obtain ⟨g1,g2⟩:=hG.g t _ _ _ hl
    exact ⟨fun x hx=>hD _ (g1 x hx),g2.trans (stable _ g1).symm⟩
   | _=>simp [km] at ht
theorem DC (l:List (Nat×AV)) (t:Nat):lk (iT l) t=(lk l t).map uS:=by
 induction l with
 | nil=>rfl
 | cons p l ih =>
  obtain ⟨k,v⟩:=p
  simp only [iT,lk,ih]
  cases Nat.beq k t<;>rfl
theorem Inv.drop (hI:Inv X e0 γ0 w0 S γ a w):Inv X e0 γ0 w0 ⟨iT S.tm,S.vs,S.rs⟩ γ a w:=by
 refine ⟨hI.rel,hI.top,⟨hI.tmp.1,fun t av ht=> ?_⟩,hI.df,hI.fr,hI.i3,hI.i4,hI.i2⟩
 have ht:lk (iT S.tm) t=some av:=ht
 rw [DC] at ht
 cases hl:lk S.tm t with
 | none=>rw [hl] at ht; cases ht
 | some av0 =>
  rw [hl] at ht; simp only [Option.map_some,zA] at ht; subst ht
  exact xG (hI.tmp.2 t av0 hl)
def o9 (S:St):Prop:=∀ t p q v,lk S.tm t≠some (.g p q v)
theorem BJ (S:St):o9 ⟨iT S.tm,S.vs,S.rs⟩:=by
 intro t p q v h
 have h:lk (iT S.tm) t=some (.g p q v):=h
 rw [DC] at h
 cases hl:lk S.tm t with
 | none=>rw [hl] at h; cases h
 | some av=>rw [hl] at h; simp only [Option.map_some,zA] at h; cases av<;>simp [uS] at h
theorem vG (h:o9 S):yt [] S a:=⟨fun t p q v hl=>absurd hl (h t p q v)⟩
theorem s7:∀ {l:List Oper} {d:Nat},d∈kZ l↔∃ o∈l,o.dst=some d
 | [],d=>by simp [kZ]
 | o::l,d=>by
  simp only [kZ]
  cases ho:o.dst with
  | none=>simp [s7,ho]
  | some e =>
   simp only [zI,s7,exists_eq_or_imp,ho,zA]
   exact ⟨fun h=>h.elim (fun h=> .inl h.symm) .inr,fun h=>h.elim (fun h=> .inl h.symm) .inr⟩
theorem sC (a b:List Oper):kZ (a++b)=kZ a++kZ b:=by
 induction a with
 | nil=>rfl
 | cons o a ih=>simp only [List.cons_append,kZ,ih]; cases o.dst<;>rfl
theorem GP:∀ {l:List Oper} {n:Nat},LK n l=true->∀ (i:Nat) (o:Oper),l[i]? =some o->∀ j w,o.guard=some (j,w)->j<n+i
 | [],n,_,i,o,h,_,_,_=>by simp at h
 | x::l,n,hg,i,o,h,j,w,ho=>by
  simp only [LK,zB] at hg
  cases i with
  | zero =>
   simp only [List.getElem?_cons_zero,zA] at h; subst h
   rw [ho] at hg
   have:Nat.ble (j+1) n=true:=hg.1
   have:=zQ this; omega
  | succ i=>have:=GP hg.2 i o (by simpa using h) j w ho; omega
structure Po (X:Ctx) (ops:Array Oper):Prop where
 nd:(kZ ops.toList).Nodup
 lt:∀ d∈kZ ops.toList,d<X.nt
 nt:X.nt<=1500
 gd:∀ (i:Nat) (o:Oper),ops[i]? =some o->∀ j w,o.guard=some (j,w)->j<i
theorem Xw {ops:Array Oper} (h:(fB (kZ ops.toList)&&(s6 X.nt (kZ ops.toList)&&(Nat.ble X.nt 1500&&LK 0 ops.toList)))=true):Po X ops:=by
 simp only [zB] at h
 refine ⟨gH.1 h.1,nU.1 h.2.1,zQ h.2.2.1,fun i o ho j w hg=> ?_⟩
 have:=GP h.2.2.2 i o (by simpa using ho) j w hg
 omega
variable {R:Type} {E:Env R}
theorem On (r0:R) (hX:iy X) (hE:te X E) {ops:Array Oper} (hr:Po X ops) {Q:Exit->Act->World->Prop} {s':St} {fp':List Fp} (hQ:∀ γ' a' w',Inv X e0 γ0 w0 s' γ' a' w'->Q .normal a' w') :
  ∀ (l pre:List Oper) (S:St) (γ:Gh) (a:Act) (w:World) (fp:List Fp),ops.toList=pre++l->Inv X e0 γ0 w0 S γ a w->yt (kZ pre) S a ->
   (∀ K:St×List Fp->Option R,(gC X E ops false l S fp fun s f=>K (s,f))=K (s',fp'))->wpOps X.P ops Q (List.range' pre.length l.length) a w
 | [],pre,S,γ,a,w,fp,_,hI,_,hK=>by
  have:=iR r0 hK
  simp only [zG] at this
  exact hQ γ a w (this.1▸hI)
 | o::l,pre,S,γ,a,w,fp,hl,hI,hG,hK=>by
  have SV:ops[pre.length]? =some o:=by
   rw [← Array.getElem?_toList,hl]; simp
  simp only [zR,List.range'_succ,wpOps,SV]
  obtain ⟨oc,rh⟩:=tW (X:=X) hE.FC ops S o
  cases oc with
  | none =>
   exact False.elim<|bN r0 (α:=St×List Fp) (y:=(s',fp')) fun K=>by
    have h1:=hK K
    have h2:=rh fun x=>gC X E ops false l ((S.app x.2.2.2).put o.dst (gd x.1 x.2.1 x.2.2.1)) fp fun s f=>K (s,f)
    exact h2.symm.trans h1
  | some x =>
   obtain ⟨p,q,v,δ⟩:=x
   have QH:∀ K:St×List Fp->Option R,(gC X E ops false l ((S.app δ).put o.dst (gd p q v)) fp fun s f=>K (s,f))=K (s',fp'):=by
    intro K
    have h1:=hK K
    have h2:=rh fun x=>gC X E ops false l ((S.app x.2.2.2).put o.dst (gd x.1 x.2.1 x.2.2.1)) fp fun s f=>K (s,f)
    exact h2.symm.trans h1
   have Ck:∀ d,o.dst=some d->d<X.nt:=fun d hd=>hr.lt d (by rw [hl,sC]; simp [kZ,hd])
   have hdn:∀ d,o.dst=some d->d∉kZ pre:=by
    intro d hd hm
    have:=hr.nd
    rw [hl,sC] at this
    exact (List.nodup_append.1 this).2.2 d hm d (by simp [kZ,hd]) rfl
   have xl:∀ x∈kZ pre,x∈kZ (pre++[o]):=fun x hx=>by rw [sC]; exact List.mem_append_left _ hx
   have HI:∀ j w,o.guard=some (j,w)->∀ oj t,ops[j]? =some oj->oj.dst=some t->t∈kZ pre:=by
    intro j w hg oj t hj ht
    have fP:=hr.gd pre.length o SV j w hg
    have hj2:pre[j]? =some oj:=by
     rw [← Array.getElem?_toList,hl,List.getElem?_append_left fP] at hj; exact hj
    exact s7.2 ⟨oj,List.mem_of_getElem? hj2,ht⟩
   have rQ:=Ki r0 hX hE hI.rel hI.top hI.tmp hG (Le.refl S.lk) (fun _ _ h=>h) hr.nt Ck HI (v:=v) (δ:=δ) (p:=p) (q:=q) (s':=S) (fun K=>rh K)
    (next:=wpOps X.P ops Q (List.range' (pre.length+1) l.length)) (Q:=Q)
   have hgp:(∀ x∈p,x.1∈kZ pre)/\(q=true↔tv a p):=(Ki r0 hX hE hI.rel hI.top hI.tmp hG (Le.refl S.lk) (fun _ _ h=>h) hr.nt Ck HI (v:=v) (δ:=δ) (p:=p) (q:=q) (s':=S) (fun K=>rh K)
    (next:=fun _ _=>True) (Q:=Q) (fun _ _ _ _ _=>trivial)).1
   have xu:=(rQ fun γ' w' u pO hu=>by
    have:=On r0 hX hE hr hQ l (pre++[o]) ((S.app δ).put o.dst (gd p q v)) γ' (a.put o.dst u) w' fp (by rw [hl]; simp) (hI.step pO Ck hu)
     (hG.step xl (fun x hx=>⟨hdn x hx,Nat.lt_of_lt_of_le (Ck x hx) hI.tmp.1⟩) hgp) QH
    simpa using this).2
   cases hw:Region.wanted o (yielded ops a.tmps) with
   | true=>rw [hw] at xu; simp only [if_true] at xu ⊢; exact .inl xu
   | false=>rw [hw] at xu; simpa using xu
end
end Go.Soft
namespace Go.Soft
open Go
variable {X:Ctx} {m M:Lk} {γ γ':Gh} {w w':World} {ρ:Operand->Value} {S T:St} {δ δ':Dl}
theorem wD {α:Type} {l:List (Nat×α)} {k:Nat} (h:k∉keys l):fh l k=none:=by
 induction l with
 | nil=>rfl
 | cons p l ih =>
  obtain ⟨j,v⟩:=p
  simp only [keys,zI,not_or] at h
  simp only [fh,ih h.2]
  rw [if_neg (Ne.symm h.1)]
theorem Bn {α:Type} {l:List (Nat×α)} {k:Nat} {v:α} (h:fh l k=some v):(k,v)∈l:=by
 induction l with
 | nil=>cases h
 | cons p l ih =>
  obtain ⟨j,u⟩:=p
  simp only [fh] at h
  cases hz:fh l k with
  | some x=>simp only [hz,zA] at h; subst h; exact zJ _ (ih hz)
  | none =>
   simp only [hz] at h
   by_cases hj:j=k
   ·rw [if_pos hj] at h; cases h; subst hj; exact zO
   ·rw [if_neg hj] at h; cases h
theorem vV {a:Nat} {l:List Nat} (h:a∉l):cd a l=false:=by
 cases hh:cd a l with
 | false=>rfl
 | true=>exact absurd (fb.1 hh) h
theorem sO {l m:List Nat}:rJ l m=true↔∃ x∈l,x∈m:=by
 induction l with
 | nil=>simp [rJ]
 | cons x l ih =>
  simp only [rJ]
  cases h:cd x m with
  | true=>exact ⟨fun _=>⟨x,zO,fb.1 h⟩,fun _=>rfl⟩
  | false =>
   have:x∉m:=fun hm=>by rw [fb.2 hm] at h; cases h
   simp only [ih,zI,exists_eq_or_imp,this,false_or]
theorem Rj {l m:List Nat} (h:∀ x∈l,x∉m):rJ l m=false:=by
 cases hh:rJ l m with
 | false=>rfl
 | true=>obtain ⟨x,h1,h2⟩:=sO.1 hh; exact absurd h2 (h x h1)
theorem L9 {r:Nat}:r∈δ.jY↔r∈keys δ.mv\/r∈δ.kr\/r∈δ.ke\/r∈δ.kn:=by simp [Dl.jY]
theorem p7 {r:Nat} (h:r∉δ.jY):lk δ.mv r=none/\cd r δ.kr=false/\cd r δ.ke=false/\cd r δ.kn=false:=by
 rw [L9] at h
 simp only [not_or] at h
 exact ⟨cH.2 h.1,vV h.2.1,vV h.2.2.1,vV h.2.2.2⟩
theorem om {x:Cv} (hr:∀ r∈x.rk,r∉δ.jY) (hv:∀ k∈x.vk,k∉δ.kv):δ.map x=x:=by
 cases x with
 | pv v c=>simp only [Dl.map,vV (hv v (by simp [Cv.vk]))]
 | fn f l=>simp only [Dl.map,Rj (fun k hk=>hv k (by simpa [Cv.vk] using hk))]
 | sw r=>obtain ⟨a,b,c,d⟩:=p7 (hr r (by simp [Cv.rk,Cv.row])); simp only [Dl.map,a,b]
 | sl r o n=>obtain ⟨a,b,c,d⟩:=p7 (hr r (by simp [Cv.rk,Cv.row])); simp only [Dl.map,a,b,c]
 | pe r o n=>obtain ⟨a,b,c,d⟩:=p7 (hr r (by simp [Cv.rk,Cv.row])); simp only [Dl.map,a,b,c]
 | nw r _ _=>obtain ⟨a,b,c,d⟩:=p7 (hr r (by simp [Cv.rk,Cv.row])); simp only [Dl.map,a,b,c,d]
 | ns r _ _ _ _=>obtain ⟨a,b,c,d⟩:=p7 (hr r (by simp [Cv.rk,Cv.row])); simp only [Dl.map,a,b,c,d]
 | pn r _ _ _ _=>obtain ⟨a,b,c,d⟩:=p7 (hr r (by simp [Cv.rk,Cv.row])); simp only [Dl.map,a,b,c,d]
 | _=>rfl
theorem ED {l:List (Nat×(Nat×Nat×Nat))} {r d e c:Nat} (h:lk l r=some (d,e,c)):d∈Ri l:=by
 have:=cM h
 clear h
 induction l with
 | nil=>cases this
 | cons p l ih =>
  obtain ⟨j,d',ec⟩:=p
  rcases zI.1 this with h | h
  ·simp only [zG] at h; obtain ⟨_,rfl,_⟩:=h; exact zO
  ·exact zJ _ (ih h)
theorem IU (x:Cv):(∀ r∈(δ.map x).rk,r∈x.rk\/r∈Ri δ.mv)/\(∀ k∈(δ.map x).vk,k∈x.vk):=by
 have un:∀ y:Cv,(∀ r∈Cv.un.rk,r∈y.rk\/r∈Ri δ.mv)/\(∀ k∈Cv.un.vk,k∈y.vk):=fun y=>⟨fun r h=>by simp [Cv.rk,Cv.row] at h,fun k h=>by simp [Cv.vk] at h⟩
 have me:∀ y:Cv,(∀ r∈y.rk,r∈y.rk\/r∈Ri δ.mv)/\(∀ k∈y.vk,k∈y.vk):=fun y=>⟨fun r h=> .inl h,fun k h=>h⟩
 cases x with
 | pv v c=>simp only [Dl.map]; split<;>first | exact un _ | exact me _
 | fn f l=>simp only [Dl.map]; split<;>first | exact un _ | exact me _
 | sw r =>
  simp only [Dl.map]; split
  ·rename_i d e c h; exact ⟨fun r hr=> .inr (by simp [Cv.rk,Cv.row] at hr; rw [hr]; exact ED h),fun k hk=>by simp [Cv.vk] at hk⟩
  ·split<;>first | exact un _ | exact me _
 | sl r o n =>
  simp only [Dl.map]; split
  ·rename_i d e c h; exact ⟨fun r hr=> .inr (by simp [Cv.rk,Cv.row] at hr; rw [hr]; exact ED h),fun k hk=>by simp [Cv.vk] at hk⟩
  ·split<;>first | exact un _ | exact me _
 | pe r o n =>
  simp only [Dl.map]; split
  ·rename_i d e c h; exact ⟨fun r hr=> .inr (by simp [Cv.rk,Cv.row] at hr; rw [hr]; exact ED h),fun k hk=>by simp [Cv.vk] at hk⟩
  ·split<;>first | exact un _ | exact me _
 | nw r _ _ =>
  simp only [Dl.map]; split
  ·exact un _
  ·split<;>first | exact un _ | exact me _
 | ns r _ _ _ _ =>
  simp only [Dl.map]; split
  ·exact un _
  ·split<;>first | exact un _ | exact me _
 | pn r _ _ _ _ =>
  simp only [Dl.map]; split
  ·exact un _
  ·split<;>first | exact un _ | exact me _
 | _=>exact me _
theorem Oe (h:∀ r,(r∈Ri δ.mv\/r∈δ.jY)->¬(r∈Ri δ'.mv\/r∈δ'.jY)) (x:Cv):δ.map (δ'.map x)=δ'.map (δ.map x):=by
 have row:∀ r,x.rk=[r]->x.vk=[]->δ.map (δ'.map x)=δ'.map (δ.map x):=by
  intro r hr hv
  have novk:∀ (d:Dl) (k:Nat),k∈(d.map x).vk->False:=fun d k hk=>by have:=(IU (δ:=d) x).2 k hk; rw [hv] at this; simp at this
  by_cases h1:r∈δ.jY
  ·have h2:r∉δ'.jY:=fun hm=>h r (.inr h1) (.inr hm)
   have e1:δ'.map x=x:=om (fun y hy=>by rw [hr] at hy; simp at hy; rw [hy]; exact h2) (fun k hk=>by rw [hv] at hk; simp at hk)
   rw [e1]
   refine (om (fun y hy=> ?_) fun k hk=>(novk δ k hk).elim).symm
   rcases (IU (δ:=δ) x).1 y hy with hy | hy
   ·rw [hr] at hy; simp at hy; rw [hy]; exact h2
   ·exact fun hm=>h y (.inl hy) (.inr hm)
  ·have e1:δ.map x=x:=om (fun y hy=>by rw [hr] at hy; simp at hy; rw [hy]; exact h1) (fun k hk=>by rw [hv] at hk; simp at hk)
   rw [e1]
   refine om (fun y hy=> ?_) fun k hk=>(novk δ' k hk).elim
   rcases (IU (δ:=δ') x).1 y hy with hy | hy
   ·rw [hr] at hy; simp at hy; rw [hy]; exact h1
   ·exact fun hm=>h y (.inr hm) (.inl hy)
 cases x with
 | pv v c =>
  simp only [Dl.map]
  cases h1:cd v δ.kv<;>cases h2:cd v δ'.kv<;>simp [Dl.map,h1,h2]
 | fn f l =>
  simp only [Dl.map]
  cases h1:rJ l δ.kv<;>cases h2:rJ l δ'.kv<;>simp [Dl.map,h1,h2]
 | sw r=>exact row r rfl rfl
 | sl r _ _=>exact row r rfl rfl
 | pe r _ _=>exact row r rfl rfl
 | nw r _ _=>exact row r rfl rfl
 | ns r _ _ _ _=>exact row r rfl rfl
 | pn r _ _ _ _=>exact row r rfl rfl
 | _=>rfl
theorem A1 {l:List Cv} {r:Nat}:r∈vg l↔∃ x∈l,r∈x.rk:=by
 induction l with
 | nil=>simp [vg]
 | cons x l ih=>simp [vg,ih]
theorem Bt {l:List Cv} {r:Nat}:r∈vB l↔∃ x∈l,r∈x.vk:=by
 induction l with
 | nil=>simp [vB]
 | cons x l ih=>simp [vB,ih]
theorem NA {l:List (Bool×List Cv)} {x:Cv}:x∈OW l↔∃ p∈l,x∈p.2:=by
 induction l with
 | nil=>simp [OW]
 | cons p l ih=>obtain ⟨b,cs⟩:=p; simp [OW,ih]
theorem tS {f:Cv->Cv} {l:List Cv} (h:∀ x∈l,f x=x):l.map f=l:=by
 induction l with
 | nil=>rfl
 | cons x l ih=>rw [List.map_cons,h x zO,ih fun y hy=>h y (zJ _ hy)]
theorem xE {f:Cv->Cv}:∀ {v:AV},(∀ x∈v.Cz,f x=x)->km f v=v
 | .c x,h=>by simp only [km]; rw [h x (by simp [AV.Cz])]
 | .a l,h=>by simp only [km]; rw [tS (l:=l) h]
 | .t l,h=>by
  simp only [km]
  congr 1
  have:∀ p∈l,(p.1,p.2.map f)=p:=fun p hp=>by rw [tS fun x hx=>h x (NA.2 ⟨p,hp,hx⟩)]
  clear h
  induction l with
  | nil=>rfl
  | cons p l ih=>rw [List.map_cons,this p zO,ih fun y hy=>this y (zJ _ hy)]
 | .g p q v,h=>by simp only [km]; rw [xE (v:=v) h]
theorem Dk {f g:Cv->Cv} (h:∀ x,f (g x)=g (f x)):∀ v:AV,km f (km g v)=km g (km f v)
 | .c x=>by simp only [km,h]
 | .a l=>by simp only [km,List.map_map]; congr 1; exact List.map_congr_left fun x _=>h x
 | .t l=>by
  simp only [km,List.map_map]; congr 1
  refine List.map_congr_left fun p _=> ?_
  simp only [Function.comp,List.map_map]; congr 1
  exact List.map_congr_left fun x _=>h x
 | .g p q v=>by simp only [km]; rw [Dk h v]
structure Mu (R V:List Nat) (l:List Cv):Prop where
 r:∀ r∈vg l,r∉R
 v:∀ k∈vB l,k∉V
theorem Mu.cell {l:List Cv} (h:Mu δ.jY δ.kv l):∀ x∈l,δ.map x=x:=fun x hx =>
 om (fun r hr=>h.r r (A1.2 ⟨x,hx,hr⟩)) fun k hk=>h.v k (Bt.2 ⟨x,hx,hk⟩)
theorem Mu.list {l:List Cv} (h:Mu δ.jY δ.kv l):l.map δ.map=l:=tS h.cell
theorem Mu.val {v:AV} (h:Mu δ.jY δ.kv v.Cz):km δ.map v=v:=xE h.cell
structure CL (S T:St):Prop where
 t:∀ t,lk S.tm t=lk T.tm t
 r:∀ k,S.lk.r k=T.lk.r k
 v:∀ k,S.lk.v k=T.lk.v k
theorem CL.refl (S:St):CL S S:=⟨fun _=>rfl,fun _=>rfl,fun _=>rfl⟩
theorem CL.symm (h:CL S T):CL T S:=⟨fun t=>(h.t t).symm,fun t=>(h.r t).symm,fun t=>(h.v t).symm⟩
theorem CL.trans {U:St} (h:CL S T) (h':CL T U):CL S U:=⟨fun t=>(h.t t).trans (h'.t t),fun t=>(h.r t).trans (h'.r t),fun t=>(h.v t).trans (h'.v t)⟩
theorem CL.lk (h:CL S T):S.lk=T.lk:=by
 have h1:S.lk.r=T.lk.r:=funext h.r
 have h2:S.lk.v=T.lk.v:=funext h.v
 cases hs:S.lk; cases ht:T.lk
 rw [hs,ht] at h1 h2
 simp only at h1 h2
 rw [h1,h2]
theorem Inv.eqv {e0:Lk} {γ0:Gh} {w0:World} {a:Act} (h:Inv X e0 γ0 w0 S γ a w) (he:CL S T):Inv X e0 γ0 w0 T γ a w:=by
 have hl:=he.lk
 refine ⟨hl▸h.rel,h.top,⟨h.tmp.1,fun t av ht=> ?_⟩,h.df,h.fr,by rw [← hl]; exact h.i3,h.i4,h.i2⟩
 rw [← he.t] at ht
 rw [← hl]
 exact h.tmp.2 t av ht
theorem yt.eqv {D:List Nat} {a:Act} (h:yt D S a) (he:CL S T):yt D T a:=⟨fun t p q v ht=>h.g t p q v (by rw [he.t]; exact ht)⟩
structure Rec where
 o:Oper
 p:List (Nat×Bool)
 q:Bool
 v:AV
 δ:Dl
def lh (S:St) (x:Rec):St:=(S.app x.δ).put x.o.dst (gd x.p x.q x.v)
theorem xJ (S:St) (x:Rec) (t:Nat):lk (lh S x).tm t=if x.o.dst=some t then some (gd x.p x.q x.v) else (lk S.tm t).map (km x.δ.map):=by
 simp only [lh,Ir,Oy]
theorem xC (S:St) (x:Rec) (k:Nat):(lh S x).lk.r k=match fh x.δ.rs k with | some r=>r | none=>S.lk.r k:=by
 simp only [lh,Jl,kO]; cases fh x.δ.rs k<;>rfl
theorem xL (S:St) (x:Rec) (k:Nat):(lh S x).lk.v k=match fh x.δ.vs k with | some cs=>some cs | none=>(S.lk.v k).map (List.map x.δ.map):=by
 simp only [lh,Jl,nZ]; cases fh x.δ.vs k<;>rfl
theorem NI (h:CL S T) (x:Rec):CL (lh S x) (lh T x) :=
 ⟨fun t=>by rw [xJ,xJ,h.t],fun k=>by rw [xC,xC,h.r],fun k=>by rw [xL,xL,h.v]⟩
def Rec.wr (x:Rec):List Nat:=Ri x.δ.mv++(x.δ.jY++keys x.δ.rs)
def Rec.wv (x:Rec):List Nat:=x.δ.kv++keys x.δ.vs
def Rec.ro (x:Rec):List Nat:=vg x.v.Cz++vg (vcs x.δ.vs)
def Rec.vo (x:Rec):List Nat:=vB x.v.Cz++vB (vcs x.δ.vs)
structure Xj (x y:Rec):Prop where
 d:∀ t,x.o.dst=some t->y.o.dst≠some t
 w:∀ r∈x.wr,r∉y.wr
 v:∀ k∈x.wv,k∉y.wv
 xr:∀ r∈x.wr,r∉y.ro
 xv:∀ k∈x.δ.kv,k∉y.vo
 yr:∀ r∈y.wr,r∉x.ro
 yv:∀ k∈y.δ.kv,k∉x.vo
theorem Vb (p:List (Nat×Bool)) (q:Bool) (v:AV):∀ x∈(gd p q v).Cz,x∈v.Cz\/x= .un:=by
 intro x hx
 cases p with
 | nil=>cases v<;>simp_all [gd,uS,AV.Cz]
 | cons y p=>exact .inl hx
theorem Rec.far (x y:Rec) (h1:∀ r∈y.wr,r∉x.ro) (h2:∀ k∈y.δ.kv,k∉x.vo):km y.δ.map (gd x.p x.q x.v)=gd x.p x.q x.v/\∀ k cs,fh x.δ.vs k=some cs->cs.map y.δ.map=cs:=by
 refine ⟨xE fun c hc=> ?_,fun k cs iW=>tS fun c hc=> ?_⟩
 ·rcases Vb _ _ _ c hc with hc | rfl
  ·exact om (fun r hr hk=>h1 r (by simp [Rec.wr,hk]) (by simp only [Rec.ro,zH]; exact .inl (A1.2 ⟨c,hc,hr⟩)))
    fun k hk hm=>h2 k hm (by simp only [Rec.vo,zH]; exact .inl (Bt.2 ⟨c,hc,hk⟩))
  ·rfl
 ·have eE:c∈vcs x.δ.vs:=by
   have:=Bn iW
   revert this
   generalize x.δ.vs=l
   induction l with
   | nil=>intro h; cases h
   | cons p l ih =>
    obtain ⟨j,l'⟩:=p
    intro h
    simp only [vcs,zH]
    rcases zI.1 h with h | h
    ·simp only [zG] at h; exact .inl (h.2▸hc)
    ·exact .inr (ih h)
  exact om (fun r hr hk=>h1 r (by simp [Rec.wr,hk]) (by simp only [Rec.ro,zH]; exact .inr (A1.2 ⟨c,eE,hr⟩)))
    fun k hk hm=>h2 k hm (by simp only [Rec.vo,zH]; exact .inr (Bt.2 ⟨c,eE,hk⟩))
theorem Lo (S:St) {x y:Rec} (h:Xj x y):CL (lh (lh S x) y) (lh (lh S y) x):=by
 obtain ⟨x1,x2⟩:=Rec.far x y h.yr h.yv
 obtain ⟨y1,y2⟩:=Rec.far y x h.xr h.xv
 have HC:∀ c,y.δ.map (x.δ.map c)=x.δ.map (y.δ.map c):=fun c=>(Oe (δ:=x.δ) (δ':=y.δ) (fun r hr cy=>h.w r (by simp [Rec.wr]; rcases hr with hr | hr<;>simp [hr]) (by simp [Rec.wr]; rcases cy with hr | hr<;>simp [hr])) c).symm
 refine ⟨fun t=> ?_,fun k=> ?_,fun k=> ?_⟩
 ·simp only [xJ]
  by_cases hx:x.o.dst=some t
  ·have hy:=h.d t hx
   simp only [hx,hy,if_true,if_false,Option.map_some,x1]
  ·by_cases hy:y.o.dst=some t
   ·simp only [hx,hy,if_true,if_false,Option.map_some,y1]
   ·simp only [hx,hy,if_false,Option.map_map]
    congr 1
    exact funext fun v=>Dk HC v
 ·simp only [xC]
  cases hx:fh x.δ.rs k with
  | none=>rfl
  | some r =>
   have:k∉keys y.δ.rs:=fun hk=>h.w k (by simp only [Rec.wr,zH]; exact .inr (.inr (mem_keys (Bn hx)))) (by simp only [Rec.wr,zH]; exact .inr (.inr hk))
   rw [wD this]
 ·simp only [xL]
  cases hx:fh x.δ.vs k with
  | none =>
   cases hy:fh y.δ.vs k with
   | none =>
    simp only [Option.map_map]
    congr 1
    funext l
    simp only [Function.comp,List.map_map]
    exact List.map_congr_left fun c _=>HC c
   | some cs=>simp only [Option.map_some,y2 k cs hy]
  | some cs =>
   have:k∉keys y.δ.vs:=fun hk=>h.v k (by simp only [Rec.wv,zH]; exact .inr (mem_keys (Bn hx))) (by simp only [Rec.wv,zH]; exact .inr hk)
   rw [wD this]
   simp only [Option.map_some,x2 k cs hx]
def rM (L:Nat->Bool):Nat->St->List Rec->St
 | _,S,[]=>S
 | n,S,x::l=>rM L (n+1) (bif L n then lh S x else S) l
theorem J5 (L:Nat->Bool):∀ (l:List Rec) (n:Nat) {S T:St},CL S T->CL (rM L n S l) (rM L n T l)
 | [],_,_,_,h=>h
 | x::l,n,S,T,h=>by
  simp only [rM]
  refine J5 L l (n+1) ?_
  cases L n
  ·exact h
  ·exact NI h x
theorem qQ (L:Nat->Bool):∀ (l l':List Rec) (n:Nat) (S:St),rM L n S (l++l')=rM L (n+l.length) (rM L n S l) l'
 | [],_,_,_=>rfl
 | x::l,l',n,S=>by
  simp only [List.cons_append,rM,zR]
  rw [qQ L l l' (n+1),Nat.add_assoc,Nat.add_comm 1]
theorem x7 {L L':Nat->Bool}:∀ (l:List Rec) (n:Nat) (S:St),(∀ k,n<=k->k<n+l.length->L k=L' k)->rM L n S l=rM L' n S l
 | [],_,_,_=>rfl
 | x::l,n,S,h=>by
  simp only [rM]
  rw [h n (Nat.le_refl n) (by simp),x7 l (n+1) _ fun k h1 h2=>h k (by omega) (by simp; omega)]
theorem Fh {L:Nat->Bool}:∀ (l:List Rec) (n:Nat) (S:St),(∀ k,n<=k->k<n+l.length->L k=true)->rM L n S l=l.foldl lh S
 | [],_,_,_=>rfl
 | x::l,n,S,h=>by
  simp only [rM,List.foldl_cons]
  rw [h n (Nat.le_refl n) (by simp),Fh l (n+1) _ fun k h1 h2=>h k (by omega) (by simp; omega)]
  rfl
theorem GS {L:Nat->Bool}:∀ (l:List Rec) (n:Nat) (S:St),(∀ k,n<=k->k<n+l.length->L k=false)->rM L n S l=S
 | [],_,_,_=>rfl
 | x::l,n,S,h=>by
  simp only [rM]
  rw [h n (Nat.le_refl n) (by simp)]
  exact GS l (n+1) _ fun k h1 h2=>h k (by omega) (by simp; omega)
theorem Gg (L:Nat->Bool) (x:Rec):∀ (l:List Rec) (n:Nat) (S:St),(∀ (k:Nat) (y:Rec),l[k]? =some y->L (n+k)=true->Xj x y)->CL (rM L n (lh S x) l) (lh (rM L n S l) x)
 | [],_,_,_=>CL.refl _
 | y::l,n,S,h=>by
  simp only [rM]
  have ih:=fun T=>Gg L x l (n+1) T fun k z hk hL=>h (k+1) z (by simpa using hk) (by rw [← hL]; congr 1; omega)
  cases hL:L n with
  | false=>exact ih S
  | true=>exact (J5 L l (n+1) (Lo S (h 0 y rfl (by simpa using hL)))).trans (ih _)
structure FA (KT KV KR:List Nat) (S T:St):Prop where
 t:∀ t∈KT,lk S.tm t=lk T.tm t
 v:∀ k∈KV,S.lk.v k=T.lk.v k
 r:∀ k∈KR,S.lk.r k=T.lk.r k
variable {KT KV KR:List Nat}
theorem FA.both (h:FA KT KV KR S T) (x:Rec):FA KT KV KR (lh S x) (lh T x) :=
 ⟨fun t ht=>by rw [xJ,xJ,h.t t ht],fun k hk=>by rw [xL,xL,h.v k hk],fun k hk=>by rw [xC,xC,h.r k hk]⟩
structure LP (KT KV KR:List Nat) (S:St) (x:Rec):Prop where
 d:∀ t∈KT,x.o.dst≠some t
 t:∀ t∈KT,∀ v,lk S.tm t=some v->Mu x.δ.jY x.δ.kv v.Cz
 k:∀ k∈KV,k∉keys x.δ.vs
 v:∀ k∈KV,∀ cs,S.lk.v k=some cs->Mu x.δ.jY x.δ.kv cs
 r:∀ k∈KR,k∉keys x.δ.rs
theorem LP.agr {x:Rec} (h:LP KT KV KR S x):FA KT KV KR (lh S x) S:=by
 refine ⟨fun t ht=> ?_,fun k hk=> ?_,fun k hk=> ?_⟩
 ·rw [xJ,if_neg (h.d t ht)]
  cases hl:lk S.tm t with
  | none=>rfl
  | some v=>simp only [Option.map_some,(h.t t ht v hl).val]
 ·rw [xL,wD (h.k k hk)]
  cases hl:S.lk.v k with
  | none=>rfl
  | some cs=>simp only [Option.map_some,(h.v k hk cs hl).list]
 ·rw [xC,wD (h.r k hk)]
theorem FA.trans {U:St} (h:FA KT KV KR S T) (h':FA KT KV KR T U):FA KT KV KR S U:=⟨fun t ht=>(h.t t ht).trans (h'.t t ht),fun t ht=>(h.v t ht).trans (h'.v t ht),fun t ht=>(h.r t ht).trans (h'.r t ht)⟩
theorem FA.symm (h:FA KT KV KR S T):FA KT KV KR T S:=⟨fun t ht=>(h.t t ht).symm,fun t ht=>(h.v t ht).symm,fun t ht=>(h.r t ht).symm⟩
theorem LP.congr {x:Rec} (h:LP KT KV KR S x) (ha:FA KT KV KR S T):LP KT KV KR T x :=
 ⟨h.d,fun t ht v hv=>h.t t ht v (by rw [ha.t t ht]; exact hv),h.k,fun k hk cs hc=>h.v k hk cs (by rw [ha.v k hk]; exact hc),h.r⟩
theorem Kc (L:Nat->Bool):∀ (l:List Rec) (n:Nat) (S T:St),FA KT KV KR S T->(∀ (k:Nat) (x:Rec),l[k]? =some x->L (n+k)=false->LP KT KV KR ((l.take k).foldl lh S) x) ->
  FA KT KV KR (l.foldl lh S) (rM L n T l)
 | [],_,_,_,h,_=>h
 | x::l,n,S,T,h,ho=>by
  simp only [List.foldl_cons,rM]
  refine Kc L l (n+1) (lh S x) _ ?_ fun k y hk hL=> ?_
  ·cases hL:L n with
   | true=>exact h.both x
   | false=>exact ((ho 0 x rfl (by simpa using hL)).agr).trans h
  ·have:=ho (k+1) y (by simpa using hk) (by rw [← hL]; congr 1; omega)
   simpa using this
theorem JK (L:Nat->Bool):∀ (l:List Rec) (n:Nat) (S T:St),FA KT KV KR S T->(∀ (k:Nat) (x:Rec),l[k]? =some x->L (n+k)=true->LP KT KV KR S x)->FA KT KV KR S (rM L n T l)
 | [],_,_,_,h,_=>h
 | x::l,n,S,T,h,ho=>by
  simp only [rM]
  refine JK L l (n+1) S _ ?_ fun k y hk hL=>ho (k+1) y (by simpa using hk) (by rw [← hL]; congr 1; omega)
  cases hL:L n with
  | true=>exact h.trans (((ho 0 x rfl (by simpa using hL)).congr h).agr).symm
  | false=>exact h
theorem EM {α:Type} (ks:List Nat) (l:List (Nat×α)) (k:Nat):lk (BM ks l) k=if k∈ks then lk l k else none:=by
 induction l with
 | nil=>simp [BM,lk]
 | cons p l ih =>
  obtain ⟨j,v⟩:=p
  simp only [BM]
  cases h:cd j ks with
  | true =>
   simp only [lk,ih]
   cases hj:Nat.beq j k with
   | true=>have:=aF hj; subst this; simp [fb.1 h]
   | false=>rfl
  | false =>
   simp only [ih,lk]
   cases hj:Nat.beq j k with
   | true =>
    have:=aF hj; subst this
    have:j∉ks:=fun hm=>by rw [fb.2 hm] at h; cases h
    simp [this]
   | false=>rfl
end Go.Soft
