import Derived.Test.YthkhihfodaobkaaGreatHA
import Derived.Laws.IdiomCopy
set_option linter.constructorNameAsVariable false
set_option linter.unusedSimpArgs false
set_option linter.unusedVariables false
namespace Go.Soft
open Go
variable {X:Ctx} {m M:Lk} {γ γ':Gh} {w w':World} {ρ:Operand->Value} {S:St} {δ:Dl}
def Td (m:Lk) (key:Nat) (row:Row) (mv:List (Nat×(Nat×Nat))) (sh:List (Nat×Nat)):Dl:={ Dl.z with kr:=key::keys mv,rs:=gone mv++(m.share sh++[(key,some row)]) }
theorem Cb {key:Nat} {row:Row} {mv:List (Nat×(Nat×Nat))} {sh:List (Nat×Nat)} (ll:(key::(keys mv++keys sh)).Nodup) (hp:∀ r k,(r,k)∈sh->∃ row,m.r r=some row) (k:Nat) :
  fx (Td m key row mv sh).rs k=if key=k then some (some row) else match lk sh k with
   | some n=>(m.r k).map (fun row=>some { row with ow:=n })
   | none=>if k∈keys mv then some none else none :=
 yc (m:=m) (r:=key) (row':=row) (a:=⟨[],mv,sh,5⟩) ll hp k
theorem Ta (hR:Rel X S.lk γ w) (cz:∀ g,w.heap.size<=g->γ.O g=none) (hm:Le m S.lk) {a:Ro} {row:Row} {v:Value} {cs:List Value} {nb:Option Nat} (ll:a.apart)
  (Gl:∀ r k,(r,k)∈a.sh->∃ row,m.r r=some row/\((k=3/\oq 4 row.ow=true)\/(k=4/\row.ow=5))) (hn:∀ g,some g=nb->w.heap.size<=g/\g<w'.heap.size)
  (Zc:w'.os=w.os) (C5:w'.tape=w.tape) (wj:w'.output=w.output) (mH:w.heap.size<=w'.heap.size) (hb:∀ g,g<w.heap.size->w'.heap[g]? =w.heap[g]?)
  (br:cX X (a.O γ.O nb) w' a.key row v cs) (Tl:eG row.ow=true) (uX:a.key<100000) :
  let γ':Gh:={ γ with O:=a.O γ.O nb,rv:=eA γ.rv a.key v,cv:=eA γ.cv a.key cs }
  Step X S γ w (Td m a.key row a.mv a.sh) γ' w'/\bu (S.app (Td m a.key row a.mv a.sh)).lk γ' (.sw a.key) v:=by
 intro γ'
 have Ke:∀ r k,(r,k)∈a.sh->∃ row,m.r r=some row:=fun r k h=>let ⟨row,h1,_⟩:=Gl r k h; ⟨row,h1⟩
 have tN:Kn a.R γ w γ' w':=a.XE cz Zc C5 wj mH hn (fun g hg _=>hb g hg) (fun r hr=>by simp [eA,hr])
 have N0:∀ k,k∈keys a.mv->lk a.sh k=none:=by
  intro k hk
  rw [cL]; intro uZ
  have:=ll; simp only [Ro.apart,List.nodup_cons,List.nodup_append] at this
  exact this.2.2.2 k hk k uZ rfl
 have rT:(S.app (Td m a.key row a.mv a.sh)).lk.r a.key=some row:=by rw [kT,Cb ll Ke]; simp
 have F8:∀ k rk,cp k (Td m a.key row a.mv a.sh).kr=false->S.lk.r k=some rk->k≠a.key /\
   ∃ rk',(S.app (Td m a.key row a.mv a.sh)).lk.r k=some rk'/\rk'.τ=rk.τ/\rk'.xs.length=rk.xs.length/\∀ e,rk'.cs e=rk.cs e:=by
  intro k rk hk F8
  have hk:¬ k∈a.key::keys a.mv:=fun h=>by rw [← ft] at h; have hk:cp k (a.key::keys a.mv)=false:=hk; rw [h] at hk; cases hk
  simp only [zI,not_or] at hk
  refine ⟨hk.1,?_⟩
  rw [kT,Cb ll Ke,if_neg (Ne.symm hk.1)]
  cases hl:lk a.sh k with
  | none=>simp only [hk.2,if_false]; exact ⟨rk,F8,rfl,rfl,fun _=>rfl⟩
  | some n =>
   obtain ⟨row2,h2⟩:=Ke k n (cU hl)
   have h3:=hm.r k row2 h2
   rw [F8] at h3; cases h3
   simp only [h2,Option.map_some]
   exact ⟨_,rfl,rfl,rfl,fun _=>rfl⟩
 refine ⟨mu hR rfl tN ?_ ?_ ?_ (fun k rk h h1=>by
  rw [Cb ll Ke] at h
  by_cases lh:a.key=k
  ·rw [if_pos lh] at h; cases h; exact absurd h1 (ug Tl)
  ·rw [if_neg lh] at h
   cases hl:lk a.sh k with
   | none=>rw [hl] at h; simp only at h; split at h<;>cases h
   | some n =>
    rw [hl] at h; simp only at h
    obtain ⟨row2,h2,h3⟩:=Gl k n (cU hl)
    rw [h2] at h; simp only [Option.map_some,zA] at h; subst h
    exfalso; rcases h3 with ⟨h3,_⟩ | ⟨h3,_⟩<;>rw [h3] at h1<;>cases h1) (fun k h1 _=>by simp [γ',eA,show k≠a.key by omega]),⟨row,rT⟩,by simp [γ',eA]⟩
 ·refine mL hR rfl (fun k rk hk lh=> ?_) (fun k rk rk' hk lh _ h=> ?_) (fun k lh _ _=>⟨fun rk rk' hk h=> ?_⟩) (fun k c hk _=>⟨?_,rfl⟩)
  ·obtain ⟨cT,rk',h1,_⟩:=F8 k rk lh hk
   exact ⟨⟨rk',h1⟩,by simp [γ',eA,cT]⟩
  ·obtain ⟨cT,rk2,h1,h2,h3,_⟩:=F8 k rk lh hk
   rw [h] at h1; cases h1
   exact ⟨h2,by omega⟩
  ·obtain ⟨cT,rk2,h1,h2,h3,h4⟩:=F8 k rk lh hk
   rw [h] at h1; cases h1
   intro e c τ ys _ hc
   exact ⟨⟨ys,by rw [h4]; exact hc,Nat.le_refl _⟩,by simp [γ',eA,cT]⟩
  ·rw [o8]; exact ⟨_,by simp [Td,Dl.z,fx,hk]; rfl⟩
 ·intro k rk h
  rw [Cb ll Ke] at h
  by_cases lh:a.key=k
  ·subst lh
   rw [if_pos rfl] at h; cases h
   simpa [γ',eA] using br
  ·rw [if_neg lh] at h
   cases hl:lk a.sh k with
   | none =>
    rw [hl] at h; simp only at h
    split at h<;>cases h
   | some n =>
    rw [hl] at h; simp only at h
    obtain ⟨row2,h2,h3⟩:=Gl k n (cU hl)
    rw [h2] at h; simp only [Option.map_some,zA] at h; subst h
    have:=a.shared (w:=w) (w':=w') (γ:=γ) ll (nb:=nb) (fun g h=>(hn g h).1) cz (fun g hg _=>hb g hg) (hR.rs k row2 (hm.r k row2 h2)) (cU hl) h3
    simpa [γ',eA,Ne.symm lh] using this
 ·intro k rk h hk WO
  rw [Cb ll Ke] at h
  by_cases lh:a.key=k
  ·rw [if_pos lh] at h; cases h
  ·rw [if_neg lh] at h
   rcases WO with h1 | h1 | h1
   ·exact lh h1.symm
   ·rw [N0 k h1] at h; simp [h1] at h
   ·cases hl:lk a.sh k with
    | none=>exact absurd h1 (cL.1 hl)
    | some n =>
     obtain ⟨row2,h2⟩:=Ke k n (cU hl)
     rw [hl] at h; simp [h2] at h
theorem Gz (hR:Rel X S.lk γ w) {f:Operand->AV} (hf:∀ o,bq S.lk γ (f o) (ρ o)) {z:Nat}:∀ (parts:List (Nat×Operand)) (n:Nat) (pss:List (List Cv)),partsOf f z n parts=some pss ->
  HN S.lk γ pss (parts.map fun p=>(ρ p.2).cells.toList)/\∀ (j:Nat) (p:Nat×Operand),parts[j]? =some p->p.1=n+j/\(ρ p.2).cells.size=z
 | [],n,pss,h=>by simp only [partsOf,zA] at h; subst h; exact ⟨.nil,by simp⟩
 | (i,o)::parts,n,pss,h=>by
  simp only [partsOf] at h
  revert h; split
  ·rename_i cs r hi hc hr
   split
   ·rename_i hz
    intro h; cases h
    obtain ⟨h1,h2⟩:=Gz hR hf parts (n+1) r hr
    have po:=qq hR (hf o) hc
    have z5:=aM hi
    have hlen:=aM hz
    have mH:(ρ o).cells.size=z:=by have:=po.length; simp at this; omega
    refine ⟨.cons po h1,fun j p hj=> ?_⟩
    cases j with
    | zero=>simp at hj; subst hj; exact ⟨by simpa using z5,mH⟩
    | succ j=>obtain ⟨h3,h4⟩:=h2 j p (by simpa using hj); exact ⟨by omega,h4⟩
   ·intro h; cases h
  ·intro h; cases h
theorem Hm (hX:iH X) (hR:Rel X S.lk γ w) (cz:∀ g,w.heap.size<=g->γ.O g=none) (hm:Le m S.lk) {t:TypeId} {τ:Ty} (ht:X.lT t=some τ) {n key:Nat} {parts:Array (Nat×Operand)} {f:Operand->AV}
  (hf:∀ o,bq S.lk γ (f o) (ρ o)) (hn:parts.size=n) (hsm:n*sz τ<=2 ^ 24) {pss:List (List Cv)} (hp:partsOf f (sz τ) 0 parts.toList=some pss) {b:XC τ} (hb:m.kq τ 0 pss=some b)
  (ll:(key::(keys b.mv++keys b.sh)).Nodup) (xV:τ.isByte=true->b.ok=true) (uX:key<100000) :
  ∃ v w' γ',(Instr.buildSlice t n (parts.map fun (i,x)=>(i,ρ x))).run X.P w= .ok v w'/\Step X S γ w (Td m key ⟨τ,b.ys,b.lv⟩ b.mv b.sh) γ' w' /\
   bu (S.app (Td m key ⟨τ,b.ys,b.lv⟩ b.mv b.sh)).lk γ' (.sw key) v:=by
 obtain ⟨hu,AF⟩:=ou ht
 obtain ⟨i,z,hi,hz,hs,_,_,_⟩:=tf hX ht
 obtain ⟨po,nC⟩:=Gz hR hf parts.toList 0 pss hp
 let ps:Array (Nat×Value):=parts.map fun (i,x)=>(i,ρ x)
 have hps:ps.toList=parts.toList.map fun p=>(p.1,ρ p.2):=by simp [ps]
 have nE:=RH (w:=w) (P:=X.P) (parts:=ps) hu hi hz hs (o6 τ) hsm (by simp [ps,hn]) (fun j p hj=>by
  rw [hps,List.getElem?_map] at hj
  cases hq:parts.toList[j]? with
  | none=>rw [hq] at hj; cases hj
  | some q =>
   rw [hq] at hj; simp only [Option.map_some,zA] at hj; subst hj
   obtain ⟨h1,h2⟩:=nC j q hq
   exact ⟨by simpa using h1,h2⟩)
 have tM:=Ef hb
 have gV:eG b.lv=true:=by rcases tM with h | h | h<;>rw [h]<;>rfl
 let a:Ro:=⟨key,b.lv,false,fun _ _=>true,b.mv,b.sh⟩
 let vss:=parts.toList.map fun p=>(ρ p.2).cells.toList
 have Uz:(ps.toList.flatMap fun p=>p.2.cells.toList)=vss.flatten:=by
  rw [hps]; simp only [List.flatMap,List.map_map]; rfl
 have V5:=a.XA (M:=S.lk) ll tM (w:=w) (w':=w.alloc (.cells (ps.toList.flatMap fun p=>p.2.cells.toList).toArray (X.id τ))) (γ:=γ) (nb:=some w.heap.size) (fun g h=>by cases h; exact Nat.le_refl _) cz
  (xs:=pss.flatten) (fun g o hg _=>by rw [heap_alloc_old w _ g (b9 hg)]; exact hg)
 obtain ⟨e1,e2,e3,e4⟩:=Mr hm hR (key:=key) tM pss vss 0 b po hb (Nat.le_refl _) xV V5
 have LJ:pss.length=n:=by rw [← e3]; simp [vss,hn]
 have Nq:vss.flatten.length=n*sz τ:=by
  have:∀ (l:List (List Value)),(∀ (j:Nat) (vs:List Value),l[j]? =some vs->vs.length=sz τ)->l.flatten.length=l.length*sz τ:=by
   intro l
   induction l with
   | nil=>simp
   | cons x l ih =>
    intro h
    have h0:=h 0 x rfl
    have:=ih (fun j vs hj=>h (j+1) vs (by simpa using hj))
    simp only [List.flatten_cons,zK,zR,Nat.add_mul,this,h0]; omega
  rw [this vss e2]; simp [vss,hn]
 refine ⟨_,_,_,nE,Ta (a:=a) (row:=⟨τ,b.ys,b.lv⟩) (v:= .slice (some ⟨w.heap.size,0,none⟩) n n) (cs:=vss.flatten) (nb:=some w.heap.size) hR cz hm ll (fun r k h=>EE hb h)
  (fun g h=>by cases h; exact ⟨Nat.le_refl _,by simp⟩) rfl rfl rfl (by simp) (fun g hg=>heap_alloc_old w _ g hg) ?_ gV uX⟩
 refine ⟨?_,fun e c ct he dk=> ?_⟩
 ·have:dU key b.lv= .own (.r key):=by simp [dU,gV]
  show Sl X _ _ (dU key b.lv) τ _ b.ys.length _
  rw [this,e1,LJ]
  refine ⟨⟨Nq,.inr ⟨w.heap.size,n,_,rfl,Nat.zero_le _,heap_alloc_new w _,Nat.le_refl _,?_,by rw [Uz]; simp [Nq],?_⟩⟩,fun g hg=> ?_⟩
  ·have:=o6 τ
   have h1:n*1<=n*sz τ:=Nat.mul_le_mul_left _ this
   simp only [maxLen]; omega
  ·rw [Uz,List.toList_toArray,← Nq,List.take_length]
  ·have:w.heap.size=g:=by simpa [Value.ownBlock] using hg
   simp [Ro.O,this,a]
 ·have UU:e<pss.length:=by rw [← e1]; exact he
  obtain ⟨u,pg,eO⟩:=e4 e c ct UU dk
  exact ⟨u,pg,by simpa using eO⟩
theorem Jw {P:Program} {t ty e:TypeId} {i:TypeInfo} {z:Value} {size bytes:Nat} (ht:P.underlying t=some (.slice e)) (hi:P.info? e=some i) (hz:i.zero=some z)
  (r9:i.size=size) (NJ:i.bytes=bytes) (J9:z.cells.size=size) (mH:0<size) {v:Value} {n:Nat} {xs:List Value} (gV:w.ownsRow 0 e size v n xs)
  {a:Addr} {k c:Nat} {news:List Value} (hl:news.length=k*size) (LH:∀ j u,news[j]? =some u->w.cell? (a.add j)=some u) (h1:∀ u∈news,u.oneCell'=true)
  (Wv:n+k<=maxLen) (Kh:(n+k)*bytes<=140737488355328) :
  ∃ v' w',(Builtin.append_ #[t,t] ty #[v,.slice (some a) k c]).run P w= .ok v' w'/\w'.ownsRow 0 e size v' (n+k) (xs++news)/\w.grownBy w' v.ownBlock /\
   ∀ g,v'.ownBlock=some g->v.ownBlock=some g\/w.heap.size<=g:=by
 obtain ⟨v',w',hr,ho,hg,_⟩:=run_append_own (P:=P) w 0 t ty e i z size bytes ht hi hz r9 NJ J9 mH v n xs gV a k c news hl LH h1 Wv Kh (Nat.zero_le _)
 refine ⟨v',w',hr,ho,hg,fun g QJ=> ?_⟩
 rcases gV.2 with ⟨rfl,rfl⟩ | ⟨g1,cap,cur,rfl,_,Il,Iv,Rl,je,Tt⟩
 ·obtain ⟨v2,w2,fU,Zm,_,_⟩:=run_append_own (P:=P) w w.heap.size t ty e i z size bytes ht hi hz r9 NJ J9 mH _ 0 xs ⟨gV.1,.inl ⟨rfl,rfl⟩⟩ a k c news hl LH h1 Wv Kh (Nat.le_refl _)
  rw [hr] at fU; cases fU
  exact .inr (Zm.lt g QJ).1
 ·by_cases z0:n+k<=cap
  ·left
   have adC:n*i.size+news.length<=cur.size:=by rw [r9,hl,je,← Nat.add_mul]; exact zP _ z0
   have fU:=run_append_room (P:=P) w t ty e i ht hi g1 n cap cur Il a k c news (by rw [r9]; exact hl) LH h1 z0 adC
   rw [hr] at fU; cases fU
   exact QJ
  ·right
   have fU:=run_append_grow (P:=P) w t ty e i z ht hi hz ⟨g1,0,none⟩ n cap xs (by rw [r9]; exact gV.1) (gV.cells (g:=g1) rfl) a k c news (by rw [r9]; exact hl) LH (by omega) (by simp only [maxLen] at Wv; omega)
    (growslice_fits (by omega) (by rw [NJ]; exact Kh))
   rw [hr] at fU; cases fU
   have:w.heap.size=g:=by simpa [Value.ownBlock] using QJ
   omega
structure Ao where
 key:Nat
 dS:Nat
 off:Nat
 gv:Option Nat
 sh:Option Nat
def Ao.f (a:Ao):Ow->Option Ow
 | .r k=>if some k=a.gv then none else if k=a.key then none else some (.r k)
 | .n k e c=>if some k=a.gv then some (dn a.dS a.key (a.off+e) c) else if some k=a.sh then some .fz else if k=a.key then some (dn a.dS a.key e c) else some (.n k e c)
 | o=>some o
def Ao.R (a:Ao) (r:Nat):Prop:=r=a.key\/some r=a.gv\/some r=a.sh
def Ao.O (a:Ao) (O:OM) (nb:Option Nat):OM:=fun g=>if some g=nb then some (.r a.key) else (O g).bind a.f
theorem Ao.Od (a:Ao) {o:Ow} (h:∀ r,a.R r->o≠ .r r/\∀ e c,o≠ .n r e c):a.f o=some o:=by
 cases o with
 | r k =>
  have hk:¬ a.R k:=fun hr=>(h k hr).1 rfl
  simp only [Ao.R,not_or] at hk
  simp only [Ao.f,if_neg hk.2.1,if_neg hk.1]
 | n k e c =>
  have hk:¬ a.R k:=fun hr=>(h k hr).2 e c rfl
  simp only [Ao.R,not_or] at hk
  simp only [Ao.f,if_neg hk.2.1,if_neg hk.2.2,if_neg hk.1]
 | _=>rfl
def R2 (key:Nat) (row':Row) (g:List Nat) (sy:List (Nat×Option Row)):Dl:={ Dl.z with kr:=key::g,rs:=sy++[(key,some row')] }
theorem AX {key:Nat} {row':Row} {g:List Nat} {sy:List (Nat×Option Row)} (k:Nat):fx (R2 key row' g sy).rs k=if key=k then some (some row') else fx sy k:=by
 show fx (sy++[(key,some row')]) k=_
 rw [iF,Ln]; by_cases h:key=k<;>simp [h]
theorem Vk (hR:Rel X S.lk γ w) (cz:∀ g,w.heap.size<=g->γ.O g=none) {a:Ao} {row':Row} {v v':Value} {cs':List Value} {nb:Option Nat} {g:List Nat} {sy:List (Nat×Option Row)}
  (hg:∀ k,k∈g↔some k=a.gv) (hsy:∀ k,fx sy k=if some k=a.gv then some none else if some k=a.sh then (S.lk.r k).map (fun row=>some { row with ow:=4 }) else none)
  (YB:a.gv≠some a.key) (UR:a.sh≠some a.key) (hgs:∀ k,some k=a.gv->some k≠a.sh) (Wt:∀ k,some k=a.sh->∃ row,S.lk.r k=some row/\row.ow=5)
  (Ak:w.grownBy w' v.ownBlock) (Gp:∀ g,v.ownBlock=some g->γ.O g=some (.r a.key)) (hn:∀ g,some g=nb->g<w'.heap.size/\(γ.O g=some (.r a.key)\/w.heap.size<=g))
  (br:cX X (a.O γ.O nb) w' a.key row' v' cs') (Tl:eG row'.ow=true) (uX:¬ (200000<=a.key/\a.key<300000)) :
  let γ':Gh:={ γ with O:=a.O γ.O nb,rv:=eA γ.rv a.key v',cv:=eA γ.cv a.key cs' }
  Step X S γ w (R2 a.key row' g sy) γ' w'/\bu (S.app (R2 a.key row' g sy)).lk γ' (.sw a.key) v':=by
 intro γ'
 have hO:∀ g o,γ.O g=some o->(∀ k,o≠ .r k\/k≠a.key)->a.O γ.O nb g=a.f o:=by
  intro g o ho hk
  have CM:¬ some g=nb:=fun h=>by
   rcases (hn g h).2 with h1 | h1
   ·rw [ho] at h1; cases h1; rcases hk a.key with h | h<;>exact absurd rfl h
   ·have:=cz g h1; rw [this] at ho; cases ho
  simp only [Ao.O,if_neg CM,ho]; rfl
 have nK:∀ g,g<w.heap.size->γ.O g≠some (.r a.key)->w'.heap[g]? =w.heap[g]? :=fun g hg ho=>Ak.block g hg (fun e=>ho (Gp g e.symm))
 have tN:Kn a.R γ w γ' w':=by
  refine ⟨Ak.os,Ak.tape,Ak.output,Ak.size,fun g hg hk=>⟨nK g hg (hk a.key (.inl rfl)).1,?_⟩,fun g hg=> ?_,rfl,fun r hr=> ?_⟩
  ·show a.O γ.O nb g=γ.O g
   cases ho:γ.O g with
   | none =>
    have CM:¬ some g=nb:=fun h=>by
     rcases (hn g h).2 with h1 | h1
     ·rw [ho] at h1; cases h1
     ·omega
    simp only [Ao.O,if_neg CM,ho]; rfl
   | some o =>
    rw [ho] at hk
    rw [hO g o ho (fun k=>by
     by_cases jf:k=a.key
     ·left; rintro rfl; exact (hk a.key (.inl rfl)).1 (by rw [jf])
     ·exact .inr jf)]
    exact a.Od fun r hr=>⟨fun e=>(hk r hr).1 (congrArg some e),fun e c e'=>(hk r hr).2 e c (congrArg some e')⟩
  ·show a.O γ.O nb g=none
   have CM:¬ some g=nb:=fun h=>by have:=(hn g h).1; omega
   simp only [Ao.O,if_neg CM,cz g (Nat.le_trans Ak.size hg)]; rfl
  ·have:r≠a.key:=fun e=>hr (.inl e)
   simp [γ',eA,this]
 have rT:(S.app (R2 a.key row' g sy)).lk.r a.key=some row':=by rw [kT,AX]; simp
 have F8:∀ k rk,cp k (R2 a.key row' g sy).kr=false->S.lk.r k=some rk->k≠a.key /\
   ∃ rk',(S.app (R2 a.key row' g sy)).lk.r k=some rk'/\rk'.τ=rk.τ/\rk'.xs.length=rk.xs.length/\∀ e,rk'.cs e=rk.cs e:=by
  intro k rk hk F8
  have hk:¬ k∈a.key::g:=fun h=>by rw [← ft] at h; have hk:cp k (a.key::g)=false:=hk; rw [h] at hk; cases hk
  simp only [zI,not_or] at hk
  refine ⟨hk.1,?_⟩
  rw [kT,AX,if_neg (Ne.symm hk.1),hsy,if_neg (fun e=>hk.2 ((hg k).2 e))]
  by_cases hs:some k=a.sh
  ·rw [if_pos hs,F8]; exact ⟨_,rfl,rfl,rfl,fun _=>rfl⟩
  ·rw [if_neg hs]; exact ⟨rk,F8,rfl,rfl,fun _=>rfl⟩
 refine ⟨mu hR rfl tN ?_ ?_ ?_ (fun k rk h h1=>by
  rw [AX] at h
  by_cases lh:a.key=k
  ·rw [if_pos lh] at h; cases h; exact absurd h1 (ug Tl)
  ·rw [if_neg lh,hsy] at h
   by_cases QJ:some k=a.gv
   ·rw [if_pos QJ] at h; cases h
   ·rw [if_neg QJ] at h
    by_cases hs:some k=a.sh
    ·rw [if_pos hs] at h
     obtain ⟨row2,h2,h5⟩:=Wt k hs
     rw [h2] at h; simp only [Option.map_some,zA] at h; subst h
     cases h1
    ·rw [if_neg hs] at h; cases h) (fun k h1 h2=>by simp [γ',eA,show k≠a.key by omega]),⟨row',rT⟩,by simp [γ',eA]⟩
 ·refine mL hR rfl (fun k rk hk lh=> ?_) (fun k rk rk' hk lh _ h=> ?_) (fun k lh _ _=>⟨fun rk rk' hk h=> ?_⟩) (fun k c hk _=>⟨?_,rfl⟩)
  ·obtain ⟨cT,rk',h1,_⟩:=F8 k rk lh hk
   exact ⟨⟨rk',h1⟩,by simp [γ',eA,cT]⟩
  ·obtain ⟨cT,rk2,h1,h2,h3,_⟩:=F8 k rk lh hk
   rw [h] at h1; cases h1
   exact ⟨h2,by omega⟩
  ·obtain ⟨cT,rk2,h1,h2,h3,h4⟩:=F8 k rk lh hk
   rw [h] at h1; cases h1
   intro e c τ ys _ hc
   exact ⟨⟨ys,by rw [h4]; exact hc,Nat.le_refl _⟩,by simp [γ',eA,cT]⟩
  ·rw [o8]; exact ⟨_,by simp [R2,Dl.z,fx,hk]; rfl⟩
 ·intro k rk h
  rw [AX] at h
  by_cases lh:a.key=k
  ·subst lh
   rw [if_pos rfl] at h; cases h
   simpa [γ',eA] using br
  ·rw [if_neg lh,hsy] at h
   by_cases QJ:some k=a.gv
   ·rw [if_pos QJ] at h; cases h
   ·rw [if_neg QJ] at h
    by_cases hs:some k=a.sh
    ·rw [if_pos hs] at h
     obtain ⟨row2,h2,h5⟩:=Wt k hs
     rw [h2] at h; simp only [Option.map_some,zA] at h; subst h
     have fU:=hR.rs k row2 h2
     have:=fU.re (O':=a.O γ.O nb) (w':=w') (k':=k) (dS:=4) (by rw [h5]; rfl) (fun g o sB hi=>by
       rw [h5] at hi
       have hi:γ.O g=some (.r k):=hi
       refine ⟨(nK g (b9 sB) (by rw [hi]; simp; exact Ne.symm lh)).trans sB,?_⟩
       rw [hO g _ hi (fun j=>by
        by_cases hj:j=a.key
        ·left; rw [hj]; simp; exact Ne.symm lh
        ·exact .inr hj)]
       simp only [Ao.f,if_neg QJ,if_neg (Ne.symm lh)]; rfl)
      (fun e c g o sB hi=>by
       rw [h5] at hi
       have hi:γ.O g=some (.n k e c):=hi
       refine ⟨(nK g (b9 sB) (by rw [hi]; simp)).trans sB,?_⟩
       rw [hO g _ hi (fun j=> .inl (by simp))]
       simp only [Ao.f,if_neg QJ,if_pos hs]; rfl)
     simpa [γ',eA,Ne.symm lh] using this
    ·rw [if_neg hs] at h; cases h
 ·intro k rk h hk WO
  rw [AX] at h
  by_cases lh:a.key=k
  ·rw [if_pos lh] at h; cases h
  ·rw [if_neg lh,hsy] at h
   rcases WO with h1 | h1 | h1
   ·exact lh h1.symm
   ·rw [if_pos h1] at h; cases h
   ·rw [if_neg (fun e=>hgs k e h1),if_pos h1] at h
    obtain ⟨row2,h2,_⟩:=Wt k h1
    rw [h2] at h; simp at h
theorem M9 {A:Nat->Prop} {ct:Ct} {v:Value} (h:CA A w ct v):v.oneCell'=true:=by
 cases ct with
 | u=>exact h.elim
 | l τ ys=>exact h.2.Jd.one
 | _=>have h:v=_:=h; subst h; rfl
theorem SJ {A:Nat->Prop} {τ:Ty} {xs:List (El τ)} {v:Value} {cs:List Value} (h:wx A w τ xs v cs):∀ u∈cs,u.oneCell'=true:=by
 intro u hu
 obtain ⟨i,hi,rfl⟩:=List.getElem_of_mem hu
 have hz:=o6 τ
 have sx:i<xs.length*sz τ:=by rw [← h.top.1]; exact hi
 have he:i/sz τ<xs.length:=Nat.div_lt_of_lt_mul (by rwa [Nat.mul_comm])
 have hc:i % sz τ<sz τ:=Nat.mod_lt _ hz
 have Wy:i/sz τ*sz τ+i % sz τ=i:=by rw [Nat.mul_comm]; exact Nat.div_add_mod i (sz τ)
 have Dx:(cells τ (xs.getD (i/sz τ) (cy τ)))[i % sz τ]? =some ((cells τ (xs.getD (i/sz τ) (cy τ)))[i % sz τ]'(by rw [bf]; exact hc)):=List.getElem?_eq_getElem _
 obtain ⟨u,pg,hr⟩:=h.rU _ _ _ he Dx
 rw [Wy,List.getElem?_eq_getElem hi] at pg
 cases pg
 exact M9 hr
theorem wO {A B:Nat->Prop} {z:Nat} {v:Value} {n:Nat} {cs cs':List Value} (h:As A w z v n cs) (h':As B w z v n cs'):cs=cs':=by
 have l1:=h.1
 have l2:=h'.1
 rcases h.2 with ⟨_,h0⟩ | ⟨g,o,cap,cur,e,fz,hv,hg,_,_,_,ht⟩
 ·subst h0
  rw [Nat.zero_mul] at l1 l2
  rw [List.length_eq_zero_iff.1 l1,List.length_eq_zero_iff.1 l2]
 ·rcases h'.2 with ⟨_,h0⟩ | ⟨g',o',cap',cur',e',fz',ZX,sB,_,_,_,J3⟩
  ·subst h0
   rw [Nat.zero_mul] at l1 l2
   rw [List.length_eq_zero_iff.1 l1,List.length_eq_zero_iff.1 l2]
  ·rw [hv] at ZX
   obtain ⟨rfl,rfl⟩:g=g'/\o=o':=by
    injection ZX with h1 _ _; injection h1 with h1; injection h1 with h1 h2 _; exact ⟨h1,h2⟩
   rw [hg] at sB; cases sB
   rw [← ht,← J3]
theorem JI (hm:Le m M) (hR:Rel X M γ w) {y:Cv} {v:Value} (hy:bu M γ y v) {τ:Ty} {ys:List (El τ)} (hd:τ.deep=true) (h:(m.vw y).ct=some (.l τ ys)) {cs:List Value} {A:Nat->Prop}
  (hv:wx A w τ ys v cs):ys=[]\/∃ r row off,y.row=some r/\m.r r=some row/\row.τ=τ/\((y= .sw r/\off=0)\/∃ n,y= .sl r off n) /\
   ∀ e c ct,e<ys.length->(cells τ (ys.getD e (cy τ)))[c]? =some ct->∃ u,cs[e*sz τ+c]? =some u/\gm X γ.O w (dY r (off+e) c row.ow) ct u:=by
 cases y with
 | nl σ =>
  simp only [Lk.vw,Vw.ct,zA,Ct.l.injEq] at h
  obtain ⟨rfl,h⟩:=h; cases h; exact .inl rfl
 | sw r =>
  simp only [Lk.vw] at h
  cases hr:m.r r with
  | none=>simp [hr,Vw.ct] at h
  | some row =>
   simp only [hr,Vw.ct,zA,Ct.l.injEq] at h
   obtain ⟨rfl,h⟩:=h; cases h
   obtain ⟨_,rfl⟩:=hy
   have br:=hR.rs r row (hm.r r row hr)
   have je:=wO hv.top br.top.Aa
   subst je
   refine .inr ⟨r,row,0,rfl,hr,rfl,.inl ⟨rfl,rfl⟩,fun e c ct he hc=> ?_⟩
   rw [Nat.zero_add]; exact br.rU e c ct he hc
 | sl r off len =>
  simp only [Lk.vw] at h
  cases hr:m.r r with
  | none=>simp [hr,Vw.ct] at h
  | some row =>
   simp only [hr,Vw.ct,zA,Ct.l.injEq] at h
   obtain ⟨rfl,h⟩:=h; cases h
   obtain ⟨row',cC,hle,hs⟩:=hy
   rw [hm.r r row hr] at cC; cases cC
   have br:=hR.rs r row (hm.r r row hr)
   have hl:=kL row.xs hle
   have sr:=br.top.Aa.sub hle hs
   have ht:=hv.top
   rw [hl] at ht
   have je:=wO ht sr
   subst je
   refine .inr ⟨r,row,off,rfl,hr,rfl,.inr ⟨len,rfl⟩,fun e c ct he hc=> ?_⟩
   rw [hl] at he
   rw [sV row.xs _ he] at hc
   obtain ⟨u,hu,LL⟩:=br.rU (off+e) c ct (by omega) hc
   refine ⟨u,?_,LL⟩
   have lS:c<sz row.τ:=by
    have:=(zU.1 hc).1
    rwa [bf] at this
   have:e*sz row.τ+c<len*sz row.τ:=by
    have:=zP (sz row.τ) (show e+1<=len from he)
    rw [Nat.add_mul] at this; omega
   rw [List.getElem?_take,if_pos this,List.getElem?_drop,← hu]
   congr 1; rw [Nat.add_mul]; omega
 | nw r e c =>
  simp only [Lk.vw,iC] at h
  cases hr:m.r r with
  | none=>simp [hr,Vw.ct] at h
  | some row =>
   cases hc:(row.cs e)[c]? with
   | none=>simp [hr,hc,Vw.ct] at h
   | some ct =>
    cases ct with
    | l σ zs =>
     simp only [hr,hc,Vw.ct,zA,Ct.l.injEq] at h
     obtain ⟨rfl,h⟩:=h
     have:=Bh _ σ zs (List.mem_of_getElem? hc)
     rw [hd] at this; cases this
    | _=>simp [hr,hc,Vw.ct] at h
 | ns r e c off len =>
  simp only [Lk.vw,iC] at h
  cases hr:m.r r with
  | none=>simp [hr,Vw.ct] at h
  | some row =>
   cases hc:(row.cs e)[c]? with
   | none=>simp [hr,hc,Vw.ct] at h
   | some ct =>
    cases ct with
    | l σ zs =>
     simp only [hr,hc,Vw.ct,zA,Ct.l.injEq] at h
     obtain ⟨rfl,h⟩:=h
     have:=Bh _ σ zs (List.mem_of_getElem? hc)
     rw [hd] at this; cases this
    | _=>simp [hr,hc,Vw.ct] at h
 | _=>simp [Lk.vw,Vw.ct] at h
theorem U1 {a:Ao} {nb:Option Nat} {τ:Ty} {xs ys:List (El τ)} {ow:Nat} {v v':Value} {cs news:List Value} (br:cX X γ.O w a.key ⟨τ,xs,ow⟩ v cs) (ZG:a.off=xs.length)
  (gV:w'.ownsRow 0 (X.id τ) (sz τ) v' (xs.length+ys.length) (cs++news)) (tM:a.dS=2\/a.dS=4\/a.dS=5) (hle:oq a.dS ow=true) (Tl:eG ow=true) (YB:a.gv≠some a.key) (UR:a.sh≠some a.key)
  (hnb:∀ g,v'.ownBlock=some g->some g=nb) (nK:∀ g o,w.heap[g]? =some o->γ.O g≠some (.r a.key)->w'.heap[g]? =some o)
  (rT:∀ e c ct,e<ys.length->(cells τ (ys.getD e (cy τ)))[c]? =some ct->∃ u,news[e*sz τ+c]? =some u/\gm X (a.O γ.O nb) w' (dY a.key (xs.length+e) c a.dS) ct u)
  (Tg:∀ g o,w.heap[g]? =some o->some g=nb->γ.O g=some (.r a.key)) :
  cX X (a.O γ.O nb) w' a.key ⟨τ,xs++ys,a.dS⟩ v' (cs++news):=by
 have Q4:dU a.key a.dS= .own (.r a.key):=by
  have:eG a.dS=true:=by rcases tM with h | h | h<;>rw [h]<;>rfl
  simp [dU,this]
 refine ⟨?_,fun e c ct he hc=> ?_⟩
 ·show Sl X _ _ (dU a.key a.dS) τ v' (xs++ys).length _
  rw [Q4,zK]
  exact ⟨gV,fun g hg=>by simp only [Ao.O,if_pos (hnb g hg)]⟩
 ·have lS:c<sz τ:=by
   have:=(zU.1 hc).1
   rwa [vY,bf] at this
  have hl:cs.length=xs.length*sz τ:=br.top.Aa.1
  by_cases hex:e<xs.length
  ·have fy:(cells τ (xs.getD e (cy τ)))[c]? =some ct:=by
    rw [vY] at hc
    have:(xs++ys).getD e (cy τ)=xs.getD e (cy τ):=by simp [List.getD,List.getElem?_append_left hex]
    rwa [this] at hc
   obtain ⟨u,hu,hr⟩:=br.rU e c ct hex fy
   have h1:e*sz τ+c<cs.length:=by
    have:=zP (sz τ) (show e+1<=xs.length from hex)
    rw [Nat.add_mul] at this; omega
   refine ⟨u,by rw [List.getElem?_append_left h1]; exact hu,hr.re (fun g o hg hi=> ?_) (EU hle _ _ _ _)⟩
   have cT:=vP (k:=a.key) hi
   refine ⟨nK g o hg cT,?_⟩
   have CM:¬ some g=nb:=fun h=>cT (Tg g o hg h)
   have hO:(a.O γ.O nb) g=(γ.O g).bind a.f:=by simp only [Ao.O,if_neg CM]
   rw [hO]
   have acZ:¬ some a.key=a.gv:=fun h=>YB h.symm
   have adj:¬ some a.key=a.sh:=fun h=>UR h.symm
   have fz:γ.O g=some .fz->(γ.O g).bind a.f=some .fz:=fun h=>by rw [h]; rfl
   have no:γ.O g=none->(γ.O g).bind a.f=none:=fun h=>by rw [h]; rfl
   have nn:γ.O g=some (.n a.key e c)->(γ.O g).bind a.f=some (dn a.dS a.key e c):=fun h=>by
    rw [h]; show a.f (.n a.key e c)=_; simp only [Ao.f,if_neg acZ,if_neg adj,if_true]
   rcases oK Tl with rfl | rfl | rfl
   ·have h2:a.dS=2:=by rcases tM with h | h | h<;>rw [h] at hle ⊢<;>first | rfl | (simp [oq] at hle)
    rw [h2]
    have hi:γ.O g=none\/γ.O g=some .fz:=hi
    show (γ.O g).bind a.f=none\/(γ.O g).bind a.f=some Ow.fz
    rcases hi with hi | hi
    ·rw [no hi]; exact .inl rfl
    ·rw [fz hi]; exact .inr rfl
   ·have hi:γ.O g=some .fz:=hi
    rw [fz hi]
    rcases tM with h | h | h<;>rw [h] at hle ⊢
    ·exact .inr rfl
    ·exact rfl
    ·simp [oq] at hle
   ·have hi:γ.O g=some (.n a.key e c):=hi
    rw [nn hi]
    exact KI tM
  ·obtain ⟨d,rfl⟩:∃ d,e=xs.length+d:=⟨e-xs.length,by omega⟩
   have hd:d<ys.length:=by simp at he; omega
   have fy:(cells τ (ys.getD d (cy τ)))[c]? =some ct:=by
    rw [vY] at hc
    have:(xs++ys).getD (xs.length+d) (cy τ)=ys.getD d (cy τ):=by simp [List.getD,List.getElem?_append_right]
    rwa [this] at hc
   obtain ⟨u,hu,hr⟩:=rT d c ct hd fy
   refine ⟨u,?_,hr⟩
   show (cs++news)[(xs.length+d)*sz τ+c]? =some u
   rw [List.getElem?_append_right (by rw [hl,Nat.add_mul]; omega),hl,← hu]
   congr 1; rw [Nat.add_mul]; omega
def Ys (X:Ctx) (S:St) (γ:Gh) (w:World) (y:Cv) (τ:Ty) (ys:List (El τ)) (cs:List Value) (p:Ap):Prop :=
  ∃ gv sh:Option Nat,(∀ k,k∈p.gone↔some k=gv) /\
   (∀ k,fx p.rs k=if some k=gv then some none else if some k=sh then (S.lk.r k).map (fun row=>some { row with ow:=4 }) else none) /\
   (∀ k,some k=gv->y.row=some k)/\(∀ k,some k=sh->y.row=some k/\∃ row,S.lk.r k=some row/\row.ow=5)/\(∀ k,some k=gv->some k≠sh) /\
   (p.lv=2\/p.lv=4\/p.lv=5) /\
   ∀ (key off dS:Nat) (nb:Option Nat) (w':World),(dS=2\/dS=4\/dS=5)->dS<=p.lv->y.row≠some key ->
    (∀ g o,w.heap[g]? =some o->γ.O g≠some (.r key)->w'.heap[g]? =some o)->(∀ g o,w.heap[g]? =some o->some g=nb->γ.O g=some (.r key)) ->
    ∀ e c ct,e<ys.length->(cells τ (ys.getD e (cy τ)))[c]? =some ct->∃ u,cs[e*sz τ+c]? =some u/\gm X ((⟨key,dS,off,gv,sh⟩:Ao).O γ.O nb) w' (dY key (off+e) c dS) ct u
theorem RQ (hm:Le m S.lk) (hR:Rel X S.lk γ w) {y:Cv} {v:Value} (hy:bu S.lk γ y v) {τ:Ty} {ys:List (El τ)} (h:(m.vw y).ct=some (.l τ ys)) {cs:List Value} {A:Nat->Prop} (hv:wx A w τ ys v cs) :
  Ys X S γ w y τ ys cs (m.jc τ y):=by
 have plain:∀ lv,m.jc τ y=⟨[],[],lv⟩->(lv=2\/lv=4\/lv=5) ->
   (∀ (key off dS:Nat) (nb:Option Nat) (w':World),(dS=2\/dS=4\/dS=5)->dS<=lv->y.row≠some key ->
    (∀ g o,w.heap[g]? =some o->γ.O g≠some (.r key)->w'.heap[g]? =some o)->(∀ g o,w.heap[g]? =some o->some g=nb->γ.O g=some (.r key)) ->
    ∀ e c ct,e<ys.length->(cells τ (ys.getD e (cy τ)))[c]? =some ct->∃ u,cs[e*sz τ+c]? =some u/\gm X ((⟨key,dS,off,none,none⟩:Ao).O γ.O nb) w' (dY key (off+e) c dS) ct u)->Ys X S γ w y τ ys cs (m.jc τ y):=by
  intro lv ll hlv hc
  rw [ll]
  exact ⟨none,none,fun k=>(by simp),fun k=>(by simp [fx]),fun k hk=>(by cases hk),fun k hk=>(by cases hk),fun k hk=>(by cases hk),hlv,hc⟩
 have cell:∀ {key off dS:Nat} {gv sh nb:Option Nat} {w':World} {r e1 e c:Nat} {row:Row} {ct:Ct} {u:Value},(∀ g o,w.heap[g]? =some o->γ.O g≠some (.r key)->w'.heap[g]? =some o) ->
   (∀ g o,w.heap[g]? =some o->some g=nb->γ.O g=some (.r key))->(dS=5->row.ow=5) ->
   (∀ g,In (dY r e1 c row.ow) (γ.O g)->In (dY key (off+e) c dS) ((γ.O g).bind (⟨key,dS,off,gv,sh⟩:Ao).f)) ->
   gm X γ.O w (dY r e1 c row.ow) ct u->gm X ((⟨key,dS,off,gv,sh⟩:Ao).O γ.O nb) w' (dY key (off+e) c dS) ct u:=by
  intro key off dS gv sh nb w' r e1 e c row ct u hh hn h5 hi hc
  refine hc.re (fun g o hg z5=> ?_) (fun gV=> ?_)
  ·have cT:=vP (k:=key) z5
   refine ⟨hh g o hg cT,?_⟩
   have CM:¬ some g=nb:=fun h=>cT (hn g o hg h)
   show In _ ((⟨key,dS,off,gv,sh⟩:Ao).O γ.O nb g)
   simp only [Ao.O,if_neg CM]
   exact hi g z5
  ·have h6:dS=5:=by revert gV; simp only [dY]; split<;>simp [Ff.pN]
   rw [h5 h6]; rfl
 cases hd:τ.deep with
 | false =>
  refine plain 5 ?_ (by simp) ?_
  ·simp only [Lk.jc,hd]
  ·intro key off dS nb w' _ _ _ _ _ e c ct he hc
   obtain ⟨u,hu,TK⟩:=hv.rU e c ct he hc
   refine ⟨u,hu,?_⟩
   have eP:=List.mem_of_getElem? hc
   cases ct with
   | u=>exact TK
   | l σ zs=>exact absurd rfl (oV hd _ _ eP σ zs)
   | _=>exact TK
 | true =>
  rcases JI hm hR hy hd h hv with h0 | ⟨r,row,offy,UJ,hr,hτ,YN,Kd⟩
  ·subst h0
   cases UJ:y.row with
   | none =>
    refine plain 5 ?_ (by simp) (fun key off dS nb w' _ _ _ _ _ e c ct he=>by simp at he)
    simp only [Lk.jc,hd,UJ]
   | some r =>
    cases hr:m.r r with
    | none =>
     refine plain 2 ?_ (by simp) (fun key off dS nb w' _ _ _ _ _ e c ct he=>by simp at he)
     simp only [Lk.jc,hd,UJ,hr]
    | some row =>
     have fU:=hm.r r row hr
     by_cases h5:row.ow=5
     ·by_cases Z7:∃ s,y= .sw s
      ·obtain ⟨s,rfl⟩:=Z7
       have hsr:s=r:=by simpa [Cv.row] using UJ
       subst hsr
       have ll:m.jc τ (.sw s)=⟨[s],[(s,none)],5⟩:=by simp only [Lk.jc,hd,Cv.row,hr,h5]
       rw [ll]
       refine ⟨some s,none,fun k=>(by simp),fun k=> ?_,fun k hk=>(by rw [hk]; rfl),fun k hk=>(by cases hk),fun k _=>(by simp),by simp,fun key off dS nb w' _ _ _ _ _ e c ct he=>by simp at he⟩
       simp only [fx]; by_cases hk:s=k
       ·subst hk; simp
       ·simp [hk,Ne.symm hk]
      ·have ll:m.jc τ y=⟨[],[(r,some { row with ow:=4 })],4⟩:=by
        simp only [Lk.jc,hd,UJ,hr,h5]
        cases y<;>first | rfl | exact absurd ⟨_,rfl⟩ Z7
       rw [ll]
       refine ⟨none,some r,fun k=>(by simp),fun k=> ?_,fun k hk=>(by cases hk),fun k hk=> ?_,fun k hk=>(by cases hk),by simp,fun key off dS nb w' _ _ _ _ _ e c ct he=>by simp at he⟩
       ·simp only [fx]; by_cases hk:r=k
        ·subst hk; simp [fU]
        ·simp [hk,Ne.symm hk]
       ·cases hk; exact ⟨UJ,row,fU,h5⟩
     ·have ll:m.jc τ y=⟨[],[],(m.jc τ y).lv⟩/\((m.jc τ y).lv=2\/(m.jc τ y).lv=4\/(m.jc τ y).lv=5):=by
       simp only [Lk.jc,hd,UJ,hr]
       split<;>simp_all
      exact plain _ ll.1 ll.2 (fun key off dS nb w' _ _ _ _ _ e c ct he=>by simp at he)
  ·subst hτ
   have fU:=hm.r r row hr
   by_cases h5:row.ow=5
   ·rcases YN with ⟨rfl,rfl⟩ | ⟨n,rfl⟩
    ·have ll:m.jc row.τ (.sw r)=⟨[r],[(r,none)],5⟩:=by simp only [Lk.jc,hd,Cv.row,hr,h5]
     rw [ll]
     refine ⟨some r,none,fun k=>(by simp),fun k=> ?_,fun k hk=>(by rw [hk]; rfl),fun k hk=>(by cases hk),fun k _=>(by simp),by simp,fun key off dS nb w' tM hle cT hh hn e c ct he hc=> ?_⟩
     ·simp only [fx]; by_cases hk:r=k
      ·subst hk; simp
      ·simp [hk,Ne.symm hk]
     ·obtain ⟨u,hu,LL⟩:=Kd e c ct he hc
      refine ⟨u,hu,cell hh hn (fun _=>h5) (fun g hi=> ?_) LL⟩
      rw [h5] at hi
      have hi:γ.O g=some (.n r (0+e) c):=hi
      rw [hi]
      show In _ ((⟨key,dS,off,some r,none⟩:Ao).f (.n r (0+e) c))
      simp only [Ao.f,if_true,Nat.zero_add]
      exact KI tM
    ·have ll:m.jc row.τ (.sl r offy n)=⟨[],[(r,some { row with ow:=4 })],4⟩:=by simp only [Lk.jc,hd,Cv.row,hr,h5]
     rw [ll]
     refine ⟨none,some r,fun k=>(by simp),fun k=> ?_,fun k hk=>(by cases hk),fun k hk=> ?_,fun k hk=>(by cases hk),by simp,fun key off dS nb w' tM hle cT hh hn e c ct he hc=> ?_⟩
     ·simp only [fx]; by_cases hk:r=k
      ·subst hk; simp [fU]
      ·simp [hk,Ne.symm hk]
     ·cases hk; exact ⟨rfl,row,fU,h5⟩
     ·obtain ⟨u,hu,LL⟩:=Kd e c ct he hc
      have hle:dS<=4:=hle
      refine ⟨u,hu,cell hh hn (fun h=>by omega) (fun g hi=> ?_) LL⟩
      rw [h5] at hi
      have hi:γ.O g=some (.n r (offy+e) c):=hi
      rw [hi]
      show In _ ((⟨key,dS,off,none,some r⟩:Ao).f (.n r (offy+e) c))
      have:¬ (some r=(none:Option Nat)):=by simp
      simp only [Ao.f,if_neg this,if_true]
      rcases tM with rfl | rfl | rfl
      ·exact .inr rfl
      ·exact rfl
      ·omega
   ·have ll:(m.jc row.τ y=⟨[],[],4⟩/\(row.ow=4\/row.ow=3))\/(m.jc row.τ y=⟨[],[],2⟩/\∀ e c,dY r e c row.ow= .ni):=by
     simp only [Lk.jc,hd,UJ,hr]
     split
     ·contradiction
     ·exact .inl ⟨rfl,.inl (by assumption)⟩
     ·exact .inl ⟨rfl,.inr (by assumption)⟩
     ·refine .inr ⟨rfl,fun e c=> ?_⟩
      simp only [dY]
    rcases ll with ⟨ll,hk⟩ | ⟨ll,hk⟩
    ·refine plain 4 ll (by simp) (fun key off dS nb w' tM hle cT hh hn e c ct he hc=> ?_)
     obtain ⟨u,hu,LL⟩:=Kd e c ct he hc
     refine ⟨u,hu,cell hh hn (fun h=>by omega) (fun g hi=> ?_) LL⟩
     have hi:γ.O g=some .fz:=by rcases hk with hk | hk<;>rw [hk] at hi<;>exact hi
     rw [hi]
     show In _ (some Ow.fz)
     rcases tM with rfl | rfl | rfl
     ·exact .inr rfl
     ·exact rfl
     ·omega
    ·refine plain 2 ll (by simp) (fun key off dS nb w' tM hle cT hh hn e c ct he hc=> ?_)
     obtain ⟨u,hu,LL⟩:=Kd e c ct he hc
     refine ⟨u,hu,cell hh hn (fun h=>by omega) (fun g hi=> ?_) LL⟩
     rw [hk] at hi
     have h2:dS=2:=by omega
     subst h2
     show (γ.O g).bind _=none\/(γ.O g).bind _=some Ow.fz
     rcases hi with hi | hi<;>rw [hi]
     ·exact .inl rfl
     ·exact .inr rfl
theorem CJ {τ τ':Ty} {xs:List (El τ')} {ys:List (El τ)} {zs:List (El τ')} (h:AW τ τ' xs ys=some zs):∃ e:τ=τ',zs=xs++e▸ys:=by
 cases τ<;>cases τ'<;>first | (simp only [AW,zA] at h; exact ⟨rfl,h.symm⟩) | (simp [AW] at h; done)
theorem H3 (hX:iH X) (hR:Rel X S.lk γ w) (cz:∀ g,w.heap.size<=g->γ.O g=none) (hm:Le m S.lk) {t ty:TypeId} {τ:Ty} (ht:X.lT t=some τ) {key:Nat} {y:Cv} {xv yv:Value}
  (hy:bu S.lk γ y yv) {ys:List (El τ)} (dk:(m.vw y).ct=some (.l τ ys)) (cT:y.row≠some key) {xs:List (El τ)} {ow:Nat} {cs:List Value} (br:cX X γ.O w key ⟨τ,xs,ow⟩ xv cs)
  (Tl:eG ow=true) (adh:(xs++ys).length<=NM) (uX:¬ (200000<=key/\key<300000)) :
  ∃ u w' γ',(Builtin.append_ #[t,t] ty #[xv,yv]).run X.P w= .ok u w' /\
   Step X S γ w (R2 key ⟨τ,xs++ys,min ow (m.jc τ y).lv⟩ (m.jc τ y).gone (m.jc τ y).rs) γ' w' /\
   bu (S.app (R2 key ⟨τ,xs++ys,min ow (m.jc τ y).lv⟩ (m.jc τ y).gone (m.jc τ y).rs)).lk γ' (.sw key) u:=by
 obtain ⟨hu,AF⟩:=ou ht
 obtain ⟨i,z,hi,hz,hs,hb,_,J9⟩:=tf hX ht
 obtain ⟨⟨news,mF⟩,_⟩:=BD hm hR hy dk
 obtain ⟨gv,sh,a1,a2,a3,a4,a5,a6,a7⟩:=RQ hm hR hy dk mF
 obtain ⟨tM,Q4,hle⟩:=FH Tl a6
 have ae4:xv.ownBlock=none\/True:= .inr trivial
 have YO:dU key ow= .own (.r key):=by simp [dU,Tl]
 have qe:w.ownsRow 0 (X.id τ) (sz τ) xv xs.length cs/\∀ g,xv.ownBlock=some g->γ.O g=some (.r key):=by
  have:=br.top; rw [YO] at this; exact this
 have hlen:(xs++ys).length=xs.length+ys.length:=zK
 have run:∃ v' w',(Builtin.append_ #[t,t] ty #[xv,yv]).run X.P w= .ok v' w'/\w'.ownsRow 0 (X.id τ) (sz τ) v' (xs.length+ys.length) (cs++news)/\w.grownBy w' xv.ownBlock /\
   ∀ g,v'.ownBlock=some g->xv.ownBlock=some g\/w.heap.size<=g:=by
  rcases mF.top.2 with ⟨rfl,h0⟩ | ⟨g,o,cap,cur,e,fz,rfl,hg,_,_,_,_⟩
  ·have hn:news=[]:=by have:=mF.top.1; rw [h0,Nat.zero_mul] at this; exact List.length_eq_zero_iff.1 this
   refine ⟨xv,w,run_append_owned_none (P:=X.P) (w:=w) 0 t ty (X.id τ) i (sz τ) hu hi xv xs.length cs qe.1,?_,⟨rfl,rfl,rfl,Nat.le_refl _,fun _ _ _=>rfl⟩,fun g hg=> .inl hg⟩
   rw [h0,hn,List.append_nil]; exact qe.1
  ·exact Jw (P:=X.P) hu hi hz hs rfl J9 (o6 τ) qe.1 (a:=⟨g,o,none⟩) mF.top.1 (fun j u hj=>by rw [jC]; exact mF.top.cell rfl hj) (SJ mF)
    (by simp only [NM] at adh; simp only [maxLen]; omega)
    (by have:=Nat.mul_le_mul (show xs.length+ys.length<=NM by omega) hb; simp only [NM] at this; omega)
 obtain ⟨v',w',nE,gV,Ak,jg⟩:=run
 have YB:gv≠some key:=fun h=>cT (a3 key h.symm)
 have UR:sh≠some key:=fun h=>cT (a4 key h.symm).1
 have nK:∀ g o,w.heap[g]? =some o->γ.O g≠some (.r key)->w'.heap[g]? =some o:=fun g o hg ho =>
  (Ak.block g (b9 hg) (fun e=>ho (qe.2 g e.symm))).trans hg
 have Tg:∀ g o,w.heap[g]? =some o->some g=v'.ownBlock->γ.O g=some (.r key):=fun g o hg h=>by
  rcases jg g h.symm with h1 | h1
  ·exact qe.2 g h1
  ·have:=b9 hg; omega
 have YI:=U1 (a:=⟨key,min ow (m.jc τ y).lv,xs.length,gv,sh⟩) (nb:=v'.ownBlock) (ys:=ys) (w':=w') br rfl gV tM hle Tl YB UR (fun g h=>h.symm) nK
  (fun e c ct he hc=>a7 key xs.length _ v'.ownBlock w' tM (Nat.min_le_right _ _) cT nK Tg e c ct he hc) Tg
 obtain ⟨h1,h2⟩:=Vk hR cz (a:=⟨key,min ow (m.jc τ y).lv,xs.length,gv,sh⟩) (row':=⟨τ,xs++ys,min ow (m.jc τ y).lv⟩) (v:=xv) (v':=v') (nb:=v'.ownBlock) a1 a2 YB UR a5
  (fun k hk=>(a4 k hk).2) Ak qe.2 (fun g h=>by
   refine ⟨(gV.lt g h.symm).2,?_⟩
   rcases jg g h.symm with h1 | h1
   ·exact .inl (qe.2 g h1)
   ·exact .inr h1) YI Q4 uX
 exact ⟨v',w',_,nE,h1,h2⟩
theorem OP {a:Option Nat} {b:Nat} (h:W5 a b=true):a≠some b:=by
 rintro rfl
 simp [W5,Nat.beq_refl] at h
theorem H7 {r:Nat} (h:zk r=true):¬ (200000<=r/\r<300000):=by
 rintro ⟨h1,h2⟩
 have h3:Nat.ble 200000 r=true:=Nat.ble_eq_true_of_le h1
 have h4:Nat.ble r 299999=true:=Nat.ble_eq_true_of_le (by omega)
 simp [zk,h3,h4] at h
theorem Pb (hX:iH X) (hR:Rel X S.lk γ w) (cz:∀ g,w.heap.size<=g->γ.O g=none) (hm:Le m S.lk) {t ty:TypeId} {τ:Ty} (ht:X.lT t=some τ) {d:Nat} (hd:d<1500) {x y:Cv} {xv yv:Value}
  (hx:bu S.lk γ x xv) (hy:bu S.lk γ y yv) {v:AV} {δ:Dl} (h:m.append τ d x y= .w true v δ) :
  ∃ u w' γ',(Builtin.append_ #[t,t] ty #[xv,yv]).run X.P w= .ok u w'/\Step X S γ w δ γ' w'/\bq (S.app δ).lk γ' v u:=by
 simp only [Lk.append] at h
 cases dk:(m.vw y).ct with
 | none=>simp [dk] at h
 | some ct =>
  cases ct with
  | l σ ys =>
   simp only [dk] at h
   cases Y6:MR σ τ with
   | false=>simp [Y6] at h
   | true =>
    have:=Cm Y6; subst this
    cases x with
    | nl ρ' =>
     simp only [Y6] at h
     cases cT:W5 y.row (d*64) with
     | false=>simp [cT] at h
     | true =>
      simp only [cT,Out.w.injEq] at h
      obtain ⟨hb,rfl,rfl⟩:=h
      have hx:xv= .slice none 0 0:=hx
      subst hx
      have br:cX X γ.O w (d*64) ⟨σ,[],5⟩ (.slice none 0 0) []:=⟨⟨World.ownsRow_nil w 0 _ _,by simp [Value.ownBlock]⟩,fun e c ct he=>by simp at he⟩
      obtain ⟨u,w',γ',h1,h2,h3⟩:=H3 hX hR cz hm (ty:=ty) ht hy dk (OP cT) br rfl (by simpa using zQ hb) (by omega)
      have hlv:min 5 (m.jc σ y).lv=(m.jc σ y).lv:=by
       have:(m.jc σ y).lv<=5:=by
        simp only [Lk.jc]
        repeat' split
        all_goals simp
       omega
      rw [hlv] at h2 h3
      exact ⟨u,w',γ',h1,h2,bq.of h3⟩
    | sw r =>
     simp only [Y6] at h
     cases Nr:W5 y.row r&&zk r with
     | false=>simp [Nr] at h
     | true =>
      have UG:=Nr
      simp only [zB] at UG
      obtain ⟨cT,C3⟩:=UG
      cases hr:m.r r with
      | none=>simp [Nr,hr] at h
      | some row =>
       obtain ⟨τ',xs,ow⟩:=row
       cases ho:eG ow with
       | false=>simp [Nr,hr,ho] at h
       | true =>
        cases hz:AW σ τ' xs ys with
        | none=>simp [Nr,hr,ho,hz] at h
        | some zs =>
         simp only [Nr,hr,ho,hz,Out.w.injEq] at h
         obtain ⟨hb,rfl,rfl⟩:=h
         obtain ⟨e,rfl⟩:=CJ hz
         subst e
         obtain ⟨_,rfl⟩:=hx
         obtain ⟨u,w',γ',h1,h2,h3⟩:=H3 hX hR cz hm (ty:=ty) ht hy dk (OP cT) (hR.rs r _ (hm.r r _ hr)) ho (zQ hb) (H7 C3)
         exact ⟨u,w',γ',h1,h2,bq.of h3⟩
    | _=>simp [Y6] at h
  | _=>simp [dk] at h
theorem SM {τ:Ty} (h:Sq τ=true):sz τ=1:=by cases τ<;>first | rfl | cases h
theorem Mf {τ:Ty} (h:Sq τ=true) (y:El τ):∃ ct,cells τ y=[ct]/\∀ A w u,CA A w ct u->u=gJ ct/\u.oneCell'=true/\∀ X O w c,gm X O w c ct u:=by
 cases τ<;>first | exact ⟨_,rfl,fun _ _ _ h=>by subst h; exact ⟨rfl,rfl,fun _ _ _ _=>rfl⟩⟩ | cases h
theorem P3 {τ:Ty} (xs ys:List (El τ)) {off n:Nat} (h:off+n<=xs.length) (hn:n<=ys.length) (e:Nat) :
  (xs.take off++ys.take n++xs.drop (off+n)).getD e (cy τ)=if off<=e/\e<off+n then ys.getD (e-off) (cy τ) else xs.getD e (cy τ):=by
 simp only [List.append_assoc,List.getD,List.getElem?_append,List.length_take,List.getElem?_take,List.getElem?_drop]
 have h1:min off xs.length=off:=by omega
 have h4:min n ys.length=n:=by omega
 rw [h1,h4]
 by_cases h2:e<off
 ·simp [h2,show ¬ (off<=e/\e<off+n) by omega]
 ·by_cases h3:e<off+n
  ·simp [h2,show e-off<n by omega,show off<=e/\e<off+n by omega]
  ·simp [h2,show ¬ e-off<n by omega,show ¬ (off<=e/\e<off+n) by omega,show off+n+(e-off-n)=e by omega]
theorem R3 (hm:Le m S.lk) (hR:Rel X S.lk γ w) {a:Cv} {xv:Value} (hx:bu S.lk γ a xv) {r off len:Nat} {row:Row} (h:m.dst a=some (r,row,off,len)) (ho:eG row.ow=true) :
  S.lk.r r=some row/\off+len<=row.xs.length/\((xv= .slice none 0 0/\len=0) \/
   ∃ g n cap o' cap',γ.rv r= .slice (some ⟨g,0,none⟩) n cap/\xv= .slice (some ⟨g,o',none⟩) len cap'/\(len=0\/o'=off*sz row.τ)):=by
 cases a<;>simp only [Lk.dst] at h<;>try (cases h; done)
 ·rename_i k
  cases hk:m.r k with
  | none=>simp [hk] at h
  | some rw' =>
   simp only [hk,zA,zG] at h
   obtain ⟨rfl,rfl,rfl,rfl⟩:=h
   have fU:=hm.r _ _ hk
   refine ⟨fU,by omega,?_⟩
   have C5:=(hR.rs _ _ fU).top
   rw [show dU k rw'.ow= .own (.r k) by simp [dU,ho]] at C5
   rw [hx.2]
   rcases C5.1.2 with ⟨h3,h4⟩ | ⟨g1,cap1,cur,h3,_⟩
   ·exact .inl ⟨h3,h4⟩
   ·exact .inr ⟨g1,_,_,0,_,h3,h3,.inr (by simp)⟩
 ·rename_i k o l
  cases hk:m.r k with
  | none=>simp [hk] at h
  | some rw' =>
   simp only [hk,zA,zG] at h
   obtain ⟨rfl,rfl,rfl,rfl⟩:=h
   have fU:=hm.r _ _ hk
   obtain ⟨row',cC,hle,sr⟩:=hx
   rw [fU] at cC; cases cC
   refine ⟨fU,hle,?_⟩
   have C5:=(hR.rs _ _ fU).top
   rw [show dU k rw'.ow= .own (.r k) by simp [dU,ho]] at C5
   rcases sr with ⟨_,rfl,h0⟩ | ⟨g,o1,n',cap,o',cap',J0,rfl,_,_,_,h0⟩
   ·exact .inl ⟨rfl,h0⟩
   ·rcases C5.1.2 with ⟨h3,h4⟩ | ⟨g1,cap1,cur,h3,_⟩
    ·rw [h3] at J0; cases J0
    ·rw [h3] at J0; injection J0 with h5 h6 h7; injection h5 with h5; injection h5 with h5 h8 _
     subst h5; subst h8
     refine .inr ⟨_,_,_,_,_,h3,rfl,?_⟩
     rcases h0 with h0 | h0
     ·exact .inl h0
     ·exact .inr (by rw [h0,Nat.zero_add])
theorem MO {τ:Ty} {xs ys zs:List (El τ)} (h:AW τ τ xs ys=some zs):zs=xs++ys:=by
 cases τ<;>(simp only [AW,zA] at h; exact h.symm)
theorem M0 (hX:iH X) (hR:Rel X S.lk γ w) (cz:∀ g,w.heap.size<=g->γ.O g=none) (hm:Le m S.lk) {t u ty:TypeId} {a b:Cv} {xv yv:Value} {v:AV} (hx:bu S.lk γ a xv) (hy:bu S.lk γ b yv)
  (h:X.u5 m t (.c a) (.c b)= .w0 v δ) :
  ∃ (n:Nat) (w':World) (γ':Gh),v= .c (.i .i64 n)/\(Builtin.copy_ #[t,u] ty #[xv,yv]).run X.P w= .ok (goInt n) w'/\Step X S γ w δ γ' w':=by
 simp only [Ctx.u5] at h
 cases ht:X.lT t with
 | none=>simp [ht] at h
 | some τ =>
  cases hd:m.dst a with
  | none=>simp [ht,hd] at h
  | some q =>
   obtain ⟨r,row,off,len⟩:=q
   cases hc:(m.vw b).ct with
   | none=>simp [ht,hd,hc] at h
   | some ct =>
    cases ct with
    | l σ ys =>
     simp only [ht,hd,hc] at h
     cases h1:eG row.ow&&(MR row.τ τ&&Sq τ) with
     | false=>simp [h1] at h
     | true =>
      cases hz:AW σ row.τ (row.xs.take off) (ys.take (min ys.length len)) with
      | none=>simp [h1,hz] at h
      | some zs =>
       simp only [h1,hz,Out.w0.injEq] at h
       obtain ⟨rfl,rfl⟩:=h
       obtain ⟨τr,xs,ow⟩:=row
       simp only [zB] at h1
       obtain ⟨ho,hτ,h1⟩:=h1
       have hτ:τr=τ:=Cm hτ
       subst hτ
       have e:σ=τr:=by
        obtain ⟨e,_⟩:=CJ hz
        exact e
       subst e
       have adE:zs=xs.take off++ys.take (min ys.length len):=MO hz
       subst adE
       obtain ⟨fU,hle,hxv⟩:=R3 hm hR hx hd ho
       obtain ⟨hu,AF⟩:=ou ht
       obtain ⟨i,z,hi,ZY,hs,hb,Xn,J9⟩:=tf hX ht
       have ib:=SM h1
       have mH:(X.P.info? (X.id σ)).map (·.size)=some 1:=by rw [hi,Option.map_some,hs,ib]
       obtain ⟨⟨csy,mF⟩,_⟩:=BD hm hR hy hc
       have br:=hR.rs r _ fU
       have C0:dU r ow= .own (.r r):=by simp [dU,ho]
       have hle:off+len<=xs.length:=hle
       let n:=min ys.length len
       have vy:n<=ys.length:=Nat.min_le_left _ _
       have Is:n<=len:=Nat.min_le_right _ _
       have Qy:(xs.take off++ys.take n++xs.drop (off+n)).length=xs.length:=by simp; omega
       show ∃ (n':Nat) (w':World) (γ':Gh),AV.c (.i .i64 (n:Nat))= .c (.i .i64 n')/\_/\Step X S γ w (TT r ⟨σ,xs.take off++ys.take n++xs.drop (off+n),ow⟩) γ' w'
       have same:∀ (cv':List Value) (O':OM) (w':World),Kn (·=r) γ w { γ with O:=O',cv:=eA γ.cv r cv' } w'->cX X O' w' r ⟨σ,xs.take off++ys.take n++xs.drop (off+n),ow⟩ (γ.rv r) cv' ->
         Step X S γ w (TT r ⟨σ,xs.take off++ys.take n++xs.drop (off+n),ow⟩) { γ with O:=O',cv:=eA γ.cv r cv' } w':=fun cv' O' w' tN rT =>
        wQ (row':=⟨σ,xs.take off++ys.take n++xs.drop (off+n),ow⟩) hR fU rfl (by show xs.length<=(xs.take off++ys.take n++xs.drop (off+n)).length; omega) (ug ho) tN rT
       have hyv:(yv= .slice none 0 0/\ys.length=0)\/∃ g2 o2 cap2 cur2 e2 fz2,yv= .slice (some ⟨g2,o2,none⟩) ys.length cap2/\w.heap[g2]? =some (.cells cur2 e2 fz2)/\o2+ys.length*sz σ<=cur2.size/\(cur2.toList.drop o2).take (ys.length*sz σ)=csy:=by
        rcases mF.top.2 with h | ⟨g,o,c,cu,e',f,h2,h3,_,_,h4,h5⟩
        ·exact .inl h
        ·exact .inr ⟨g,o,c,cu,e',f,h2,h3,h4,h5⟩
       by_cases UW:n=0
       ·have rT:xs.take off++ys.take n++xs.drop (off+n)=xs:=by rw [UW]; simp
        refine ⟨n,w,_,rfl,?_,same (γ.cv r) γ.O w ⟨rfl,rfl,rfl,Nat.le_refl _,fun _ _ _=>⟨rfl,rfl⟩,cz,rfl,fun j hj=>by simp [eA,hj]⟩ (by rw [rT]; simpa [eA] using br)⟩
        rw [UW]
        rcases hxv with ⟨rfl,_⟩ | ⟨g,n',cap,o',cap',_,rfl,_⟩<;>rcases hyv with ⟨rfl,_⟩ | ⟨g2,o2,cap2,cur2,e2,fz2,rfl,_⟩ <;>
         exact run_copy_none (P:=X.P) w t u ty (X.id σ) _ _ _ _ _ _ hu mH (by first | exact Nat.zero_min _ | exact Nat.min_zero _ | exact UW)
       ·rcases hxv with ⟨_,h0⟩ | ⟨g,n',cap,o',cap',wy,rfl,h0⟩
        ·exact absurd (show n=0 by omega) UW
        rcases hyv with ⟨_,h00⟩ | ⟨g2,o2,cap2,cur2,e2,fz2,rfl,YZ,Tu,Xa⟩
        ·exact absurd (show n=0 by omega) UW
        have NI:o'=off:=by
         rcases h0 with h0 | h0
         ·omega
         ·rw [h0]; show off*sz σ=off; rw [ib,Nat.mul_one]
        subst NI
        have C5:=br.top
        rw [show dU r (Row.ow ⟨σ,xs,ow⟩)= .own (.r r) from C0] at C5
        obtain ⟨gV,pc⟩:=C5
        rcases gV.2 with ⟨h3,_⟩ | ⟨g1,cap1,cur,h3,_,hg,Iv,Rl,je,Tt⟩
        ·rw [h3] at wy; cases wy
        have Nw:g1=g:=by
         rw [h3] at wy; injection wy with h _ _; injection h with h; injection h with h2 h3 _
        subst Nw
        have Rj:xs.length<=cur.size:=by
         have:xs.length<=cap1:=Iv
         rw [je,show sz σ=1 from ib]; omega
        have afc:csy.length=ys.length:=by have:=mF.top.1; rwa [ib,Nat.mul_one] at this
        have yW:(csy.take n).length=n:=by rw [List.length_take]; omega
        have Kd:∀ j,j<ys.length->∃ ct u,cells σ (ys.getD j (cy σ))=[ct]/\csy[j]? =some u/\u=gJ ct/\u.oneCell'=true/\∀ X O w c,gm X O w c ct u:=by
         intro j hj
         obtain ⟨ct,dk,Dx⟩:=Mf h1 (ys.getD j (cy σ))
         obtain ⟨u,pg,hv⟩:=mF.rU j 0 ct hj (by rw [dk]; rfl)
         rw [ib,Nat.mul_one,Nat.add_zero] at pg
         obtain ⟨q1,q2,q3⟩:=Dx _ _ _ hv
         exact ⟨ct,u,dk,pg,q1,q2,q3⟩
        have nE:=run_copy_row (P:=X.P) w t u ty (X.id σ) g1 o' len cap' ⟨g2,o2,none⟩ ys.length cap2 cur _ (csy.take n) hu mH hg yW
         (fun j v hj=>by
          have Lw:j<n:=by have:=(zU.1 hj).1; rwa [yW] at this
          rw [List.getElem?_take,if_pos Lw,← Xa,List.getElem?_take,if_pos (by rw [ib]; omega),List.getElem?_drop] at hj
          have:(Addr.add ⟨g2,o2,none⟩ j)=⟨g2,o2+j,none⟩:=by unfold Addr.add; split<;>simp_all
          rw [this]
          simp only [World.cell?,YZ]
          simpa using hj)
         (by rw [yW]; omega)
         (fun v hv=>by
          obtain ⟨j,hj⟩:=List.mem_iff_getElem?.1 hv
          have Lw:j<n:=by have:=(zU.1 hj).1; rwa [yW] at this
          rw [List.getElem?_take,if_pos Lw] at hj
          obtain ⟨ct,u,_,q,_,q2,_⟩:=Kd j (by omega)
          rw [hj] at q; cases q; exact q2)
        have Qc:γ.O g1=some (.r r):=pc g1 (by rw [h3]; rfl)
        have nh:(γ.cv r).length=xs.length:=by have:=gV.1; rwa [ib,Nat.mul_one] at this
        rw [yW] at nE
        refine ⟨n,_,_,rfl,nE,same (Soft.cY (γ.cv r) o' (csy.take n)) γ.O _ ?_ ?_⟩
        ·exact ⟨rfl,rfl,rfl,by simp,fun g sB cT=>⟨mj w _ _ g (fun h=>by have:=(cT r rfl).1; rw [h,Qc] at this; exact this rfl),rfl⟩,
          fun g sB=>cz g (by simpa using sB),rfl,fun j hj=>by simp [eA,hj]⟩
        ·have Zx:cur.toList.take o'++csy.take n++cur.toList.drop (o'+n)=Soft.cY cur.toList o' (csy.take n):=by simp only [Soft.cY,yW]
         refine ⟨?_,fun e c ct he dk=> ?_⟩
         ·show Sl X γ.O _ (dU r ow) σ _ (xs.take o'++ys.take n++xs.drop (o'+n)).length _
          rw [Qy,C0,Zx]
          refine ⟨⟨by rw [im _ _ _ (by rw [nh,yW]; omega),nh,ib,Nat.mul_one],.inr ⟨g1,cap1,_,h3,Nat.zero_le _,tg w _ _ _ _ _ hg,Iv,Rl,?_,?_⟩⟩,pc⟩
          ·rw [List.size_toArray,im _ _ _ (by rw [yW,Array.length_toList]; omega),Array.length_toList,je]
          ·rw [List.toList_toArray,uf _ _ _ _ (by rw [yW]; show o'+n<=xs.length*sz σ; rw [ib]; omega) (by show xs.length*sz σ<=cur.toList.length; rw [ib,Nat.mul_one]; simpa using Rj),Tt]
         ·have Tp:e<xs.length:=by
           have:e<(xs.take o'++ys.take n++xs.drop (o'+n)).length:=he
           rwa [Qy] at this
          have tK:(cells σ ((xs.take o'++ys.take n++xs.drop (o'+n)).getD e (cy σ)))[c]? =some ct:=dk
          have nL:c=0:=by have:=(zU.1 tK).1; rw [bf,ib] at this; omega
          subst nL
          rw [P3 _ _ (by omega) vy] at tK
          show ∃ u,(Soft.cY (γ.cv r) o' (csy.take n))[e*sz σ+0]? =some u/\gm X γ.O _ (dY r e 0 ow) ct u
          rw [ib,Nat.mul_one,Nat.add_zero]
          by_cases z5:o'<=e/\e<o'+n
          ·rw [if_pos z5] at tK
           obtain ⟨j,rfl⟩:∃ j,e=o'+j:=⟨e-o',by omega⟩
           have hj:j<n:=by omega
           rw [Nat.add_sub_cancel_left] at tK
           obtain ⟨ct',u,q1,q2,q3,_,q4⟩:=Kd j (by omega)
           rw [q1] at tK
           simp only [List.getElem?_cons_zero,zA] at tK
           subst tK
           exact ⟨u,by rw [dK _ _ _ _ (by rw [yW]; exact hj) (by rw [yW,nh]; omega),List.getElem?_take,if_pos hj,q2],q4 _ _ _ _⟩
          ·rw [if_neg z5] at tK
           obtain ⟨u,pg,eO⟩:=br.rU e 0 ct Tp tK
           have pg:(γ.cv r)[e*sz σ+0]? =some u:=pg
           rw [ib,Nat.mul_one,Nat.add_zero] at pg
           refine ⟨u,?_,eO.re (fun g o sB sx=>⟨(mj w _ _ g (fun h=>vP sx (h▸Qc))).trans sB,sx⟩) id⟩
           rcases Nat.lt_or_ge e o' with h | h
           ·rw [c8 _ _ _ _ h (by rw [nh]; omega)]; exact pg
           ·rw [cZ _ _ _ _ (by rw [yW]; omega) (by rw [yW,nh]; omega)]; exact pg
    | _=>simp [ht,hd,hc] at h
def AP (X:Ctx) (S:St) (γ:Gh) (w:World) (ρ:Operand->Value) (o:Oper) (v:AV) (δ:Dl):Prop :=
 ∃ r u w' γ',(Go.execOp ρ o).run X.P w= .ok r w'/\(r= .value u\/(r= .skip/\u=undef))/\bq (S.app δ).lk γ' v u/\Step X S γ w δ γ' w'
theorem AP.of {o:Oper} {v:AV} {s:Sem Value} (he:Go.execOp ρ o=(do let x←s; pure (.value x)))
  (h:∃ u w' γ',s.run X.P w= .ok u w'/\Step X S γ w δ γ' w'/\bq (S.app δ).lk γ' v u):AP X S γ w ρ o v δ:=by
 obtain ⟨u,w',γ',h1,h2,h3⟩:=h
 exact ⟨.value u,u,w',γ',by rw [he,Sem.run_bind,h1]; rfl,.inl rfl,h3,h2⟩
theorem AP.ofU {o:Oper} {s:Sem Unit} (he:Go.execOp ρ o=(do s; pure .skip))
  (h:∃ w' γ',s.run X.P w= .ok () w'/\Step X S γ w δ γ' w'):AP X S γ w ρ o u8 δ:=by
 obtain ⟨w',γ',h1,h2⟩:=h
 exact ⟨.skip,undef,w',γ',by rw [he,Sem.run_bind,h1]; rfl,.inr ⟨rfl,rfl⟩,⟨[],rfl,.nil⟩,h2⟩
theorem Ca {P:Program} (t:TypeId) (v:Value) (w:World):(newVar t v).run P w= .ok ⟨w.heap.size,0,none⟩ (w.alloc (.cells v.cells t)):=by
 rfl
theorem Oj {P:Program} {t:TypeId} {i:TypeInfo} {z:Value} (hi:P.info? t=some i) (hz:i.zero=some z) (w:World):(zeroValue t).run P w= .ok z w:=by
 simp [zeroValue,typeInfo,hi,hz]
theorem JZ (hR:Rel X S.lk γ w) (cz:∀ g,w.heap.size<=g->γ.O g=none) {t:TypeId} {cs:List Cv} (h:X.zero t=some cs) (key:Nat) (uX:1000<=key) :
  ∃ u w' γ',(Instr.alloc t true (.tuple #[])).run X.P w= .ok u w'/\Step X S γ w (GF key cs) γ' w'/\bq (S.app (GF key cs)).lk γ' (.c (.pv key 0)) u:=by
 obtain ⟨i,z,hi,hz,hr⟩:=K1 (M:=(S.app (GF key cs)).lk) (γ:=GM γ w key) h
 obtain ⟨h1,h2⟩:=La key cs uX hR cz z.cells.toList t hr
 refine ⟨_,_,_,?_,h1,bq.of h2⟩
 simp only [Instr.alloc,Sem.run_bind,Oj hi hz,Result.andThen_ok,Ca,Sem.run_pure]
theorem Ob (hR:Rel X S.lk γ w) (cz:∀ g,w.heap.size<=g->γ.O g=none) {t:TypeId} {cs:List Cv} {v:Value} (hv:cj S.lk γ cs v.cells.toList) (key:Nat) (uX:1000<=key) :
  let cs':=sm (Dl.map { Dl.z with kv:=[key] }) cs
  ∃ u w' γ',(Instr.box t v).run X.P w= .ok u w'/\Step X S γ w (GF key cs') γ' w'/\bq (S.app (GF key cs')).lk γ' (.c (.pv key 0)) u:=by
 intro cs'
 have Ie:(GF key cs').map=(Dl.map { Dl.z with kv:=[key] }):=by
  funext x; cases x<;>rfl
 have hr:=hv.map (EJ (key:=key) (cs:=cs') hR)
 rw [Ie,← xK] at hr
 obtain ⟨h1,h2⟩:=La key cs' uX hR cz v.cells.toList t hr
 refine ⟨_,_,_,?_,h1,bq.of h2⟩
 simp only [Instr.box,Sem.run_bind,Ca,Result.andThen_ok,Sem.run_pure]
theorem IF (hR:Rel X S.lk γ w) (cz:∀ g,w.heap.size<=g->γ.O g=none) (hm:Le m S.lk) {x:Cv} {vl:List Cv} {av v:Value} {t:TypeId} (hx:bu S.lk γ x av)
  (hv:cj S.lk γ vl v.cells.toList) (hs:vl.length=gj X.P t) (hp:0<vl.length) {u:AV} (h:m.store x vl= .w0 u δ\/m.store x vl= .w true u δ) :
  u=u8/\∃ w' γ',(Instr.storeAt t av v).run X.P w= .ok () w'/\Step X S γ w δ γ' w':=by
 cases x with
 | pv k c =>
  simp only [Lk.store] at h
  cases hk:m.v k with
  | none=>simp [hk] at h
  | some sA =>
   simp only [hk] at h
   cases hb:Nat.ble (c+vl.length) sA.length with
   | false=>simp [hb] at h
   | true =>
    simp only [hb,Out.w0.injEq,reduceCtorEq,or_false] at h
    obtain ⟨rfl,rfl⟩:=h
    obtain ⟨w',h1,h2⟩:=Se k c sA vl hR cz hx (hm.v k sA hk) (zQ hb) hv hs hp
    exact ⟨rfl,w',γ,h1,h2⟩
 | pe r e c =>
  simp only [Lk.store] at h
  cases hr:m.r r with
  | none=>simp [hr] at h
  | some row =>
   simp only [hr] at h
   cases ho:eG row.ow with
   | false=>simp [ho] at h
   | true =>
    cases ha:m.bW e c vl with
    | none=>simp [ho,ha] at h
    | some a =>
     cases hb:Nat.ble (c+vl.length) (sz row.τ) with
     | false=>simp [ho,ha,hb] at h
     | true =>
      cases hy:sj row.τ (cY (row.cs e) c a.iJ) with
      | none=>simp [ho,ha,hb,hy] at h
      | some y =>
       simp only [ho,ha,hb,hy] at h
       have hb:=zQ hb
       cases hf:j7 vl with
       | true =>
        simp only [hf,Out.w.injEq,reduceCtorEq,false_or] at h
        obtain ⟨h0,rfl,rfl⟩:=h
        obtain ⟨w',γ',h1,h2⟩:=Sp hR cz hm hr ho hf ha hb hy h0 hv hx hs hp
        exact ⟨rfl,w',γ',h1,h2⟩
       | false =>
        simp only [hf] at h
        cases hn:fC (r::(keys a.mv++keys a.sh)) with
        | false=>simp [hn] at h
        | true =>
         simp only [hn,Out.w.injEq,reduceCtorEq,false_or] at h
         obtain ⟨h0,rfl,rfl⟩:=h
         obtain ⟨w',γ',h1,h2⟩:=R8 hR cz hm hr ho ha hb hy h0 (gO.1 hn) hv hx hs hp
         exact ⟨rfl,w',γ',h1,h2⟩
 | pn r e c k d =>
  simp only [Lk.store] at h
  cases hr:m.r r with
  | none=>simp [hr] at h
  | some row =>
   simp only [hr] at h
   cases ho:Nat.beq row.ow 5 with
   | false=>simp [ho] at h
   | true =>
    cases hf:j7 vl with
    | false=>simp [ho,hf] at h
    | true =>
     cases hc:m.iJ vl with
     | none=>simp [ho,hf,hc] at h
     | some iJ =>
      simp only [ho,hf,hc,iC] at h
      cases hn:(row.cs e)[c]? with
      | none=>simp [hn] at h
      | some ct =>
       cases ct with
       | l τ ys =>
        simp only [hn] at h
        cases hb:Nat.ble (d+vl.length) (sz τ) with
        | false=>simp [hb] at h
        | true =>
         cases hy:sj τ (cY (cells τ (ys.getD k (cy τ))) d iJ) with
         | none=>simp only [hb,hy,reduceCtorEq,or_self] at h
         | some y =>
          cases hz:sj row.τ (cY (row.cs e) c [.l τ (ys.set k y)]) with
          | none=>simp only [hb,hy,hz,reduceCtorEq,or_self] at h
          | some z =>
           simp only [hb,hy,hz,Out.w.injEq,reduceCtorEq,false_or] at h
           obtain ⟨h0,rfl,rfl⟩:=h
           obtain ⟨w',h1,h2⟩:=Sn hR cz hm hr (aM ho) hf hc hn (zQ hb) hy hz h0 hv hx hs hp
           exact ⟨rfl,w',γ,h1,h2⟩
       | _=>simp [hn] at h
 | _=>simp [Lk.store] at h
theorem U0 (hX:iH X) (hR:Rel X S.lk γ w) (cz:∀ g,w.heap.size<=g->γ.O g=none) (hm:Le m S.lk) {evp:List (Nat×Bool)->TypeId->Operand->AV} (rS:∀ ty x,bq S.lk γ (evp [] ty x) (ρ x))
  {d:Nat} (hd:d<1500) {o:Oper} {v:AV} (h:cd X evp m d o.type o.op= .w0 v δ\/cd X evp m d o.type o.op= .w true v δ):AP X S γ w ρ o v δ:=by
 obtain ⟨dst,op,type,pos,aft,guard⟩:=o
 simp only at h
 cases op with
 | alloc t =>
  simp only [cd] at h
  cases hz:X.zero t with
  | none=>simp [hz] at h
  | some cs =>
   simp only [hz,Out.w0.injEq,reduceCtorEq,or_false] at h
   obtain ⟨rfl,rfl⟩:=h
   exact AP.of rfl (JZ hR cz hz _ (by omega))
 | box t x =>
  simp only [cd] at h
  cases hc:(evp [] t x).cells with
  | none=>simp [hc] at h
  | some cs =>
   cases hb:Nat.beq cs.length (gj X.P t) with
   | false=>simp [hc,hb] at h
   | true =>
    simp only [hc,hb,Out.w0.injEq,reduceCtorEq,or_false] at h
    obtain ⟨rfl,rfl⟩:=h
    exact AP.of rfl (Ob hR cz (qq hR (rS t x) hc) _ (by omega))
 | buildSlice t n parts =>
  simp only [cd] at h
  cases ht:X.lT t with
  | none=>simp [ht] at h
  | some τ =>
   simp only [ht] at h
   cases h1:Nat.beq parts.size n&&Nat.ble (n*sz τ) 16777216 with
   | false=>simp [h1] at h
   | true =>
    cases hp:partsOf (evp [] type) (sz τ) 0 parts.toList with
    | none=>simp [h1,hp] at h
    | some pss =>
     simp only [h1,hp] at h
     cases hb:m.kq τ 0 pss with
     | none=>simp [hb] at h
     | some b =>
      simp only [hb] at h
      cases hn:fC (d*64::(keys b.mv++keys b.sh)) with
      | false=>simp [hn] at h
      | true =>
       simp only [hn] at h
       simp only [zB] at h1
       obtain ⟨h1,h2⟩:=h1
       have h2:=zQ h2
       cases NJ:τ.isByte with
       | true =>
        simp only [NJ,Out.w.injEq,reduceCtorEq,false_or] at h
        obtain ⟨h0,rfl,rfl⟩:=h
        obtain ⟨v,w',γ',g1,g2,g3⟩:=Hm hX hR cz hm ht (rS type) (aM h1) h2 hp hb (gO.1 hn) (fun _=>h0) (by omega)
        exact AP.of rfl ⟨v,w',γ',g1,g2,bq.of g3⟩
       | false =>
        simp only [NJ,Out.w0.injEq,reduceCtorEq,or_false] at h
        obtain ⟨rfl,rfl⟩:=h
        obtain ⟨v,w',γ',g1,g2,g3⟩:=Hm hX hR cz hm ht (rS type) (aM h1) h2 hp hb (gO.1 hn) (fun e=>by rw [NJ] at e; cases e) (by omega)
        exact AP.of rfl ⟨v,w',γ',g1,g2,bq.of g3⟩
 | store t x y =>
  simp only [cd] at h
  have hr:=rS type x
  cases hx:evp [] type x with
  | c a =>
   cases hc:(evp [] t y).cells with
   | none=>simp [hx,hc] at h
   | some cs =>
    simp only [hx,hc] at h
    cases hb:Nat.beq cs.length (gj X.P t)&&Nat.ble 1 cs.length with
    | false=>simp [hb] at h
    | true =>
     simp only [hb] at h
     simp only [zB] at hb
     rw [hx] at hr
     have Gk:a≠ .un:=by rintro rfl; simp [Lk.store] at h
     obtain ⟨rfl,w',γ',h1,h2⟩:=IF hR cz hm (bq.to hr Gk) (qq hR (rS t y) hc) (aM hb.1) (zQ hb.2) h
     exact AP.ofU rfl ⟨w',γ',h1,h2⟩
  | _=>simp [hx] at h
 | makeSlice t n c =>
  simp only [cd] at h
  cases ht:X.lT t with
  | none=>simp [ht] at h
  | some τ =>
   cases hn:(evp [] type n).int with
   | none=>simp [ht,hn] at h
   | some a =>
    cases hc:(evp [] type c).int with
    | none=>simp [ht,hn,hc] at h
    | some b =>
     simp only [ht,hn,hc,Out.w.injEq,reduceCtorEq,false_or,zB,beq_iff_eq,zD] at h
     obtain ⟨⟨rfl,h0,h1⟩,rfl,rfl⟩:=h
     obtain ⟨k,hk⟩:=xi (rS type n) hn
     obtain ⟨k',uZ⟩:=xi (rS type c) hc
     have h1:=zQ h1
     obtain ⟨v,w',γ',g1,g2,g3⟩:=MF hX hR cz ht (k:=k) (k':=k') h1 (d*64) (by omega)
     rw [show ((a.toNat:Nat):Int)=a by omega] at g1
     exact AP.of rfl ⟨v,w',γ',by rw [hk,uZ]; exact g1,g2,bq.of g3⟩
 | call c =>
  obtain ⟨callee,args,argTypes⟩:=c
  cases callee with
  | builtin b =>
   simp only [cd] at h
   revert h; split
   ·intro h; exfalso; revert h; simp only [Ctx.Jc,Pz]
    repeat' split
    all_goals simp
   ·rename_i x y t u ha ht
    intro h
    have F5:args= #[x,y]:=Array.toList_inj.1 ha
    have J3:argTypes= #[t,u]:=Array.toList_inj.1 ht
    subst F5; subst J3
    simp only [Ctx.U4] at h
    revert h; split
    ·rename_i τ a b he hb hxa Wl
     intro h
     have h:m.append τ d a b= .w true v δ:=by
      rcases h with h | h
      ·exfalso; revert h; simp only [Lk.append]; repeat' split
       all_goals simp
      ·exact h
     have:=aM hb; subst this
     have hx:=rS t x; rw [hxa] at hx
     have hy:=rS t y; rw [Wl] at hy
     have hau:a≠ .un:=by
      rintro rfl; revert h; simp only [Lk.append]; repeat' split
      all_goals simp_all
     have hbu:b≠ .un:=by
      rintro rfl; revert h; simp only [Lk.append]; simp [Lk.vw,Vw.ct]
     obtain ⟨r,w',γ',g1,g2,g3⟩:=Pb (ty:=type) hX hR cz hm he hd (bq.to hx hau) (bq.to hy hbu) h
     refine ⟨.value r,r,w',γ',?_,.inl rfl,g3,g2⟩
     simp only [Go.execOp,resolve,invoke,Sem.run_bind,Sem.run_pure,Result.andThen_ok,builtin,List.map_toArray,List.map,g1]
    ·simp
   ·rename_i x t ha ht
    intro h
    have F5:args= #[x]:=Array.toList_inj.1 ha
    have J3:argTypes= #[t]:=Array.toList_inj.1 ht
    subst F5; subst J3
    have hx:=rS t x
    cases WM:evp [] t x with
    | c a =>
     rw [WM] at h hx
     cases a with
     | sl r off len =>
      have h:X.sG m t (.c (.sl r off len))= .w0 v δ:=by
       rcases h with h | h
       ·exact h
       ·exfalso; revert h; simp only [Ctx.sG]; repeat' split
        all_goals simp
      obtain ⟨rfl,w',γ',g1,g2⟩:=Jp hX hR cz hm hx h type
      refine ⟨.value (.tuple #[]),_,w',γ',?_,.inl rfl,⟨[],rfl,.nil⟩,g2⟩
      simp only [Go.execOp,resolve,invoke,Sem.run_bind,Sem.run_pure,Result.andThen_ok,builtin,List.map_toArray,List.map,g1]
     | _=>simp [Ctx.sG] at h
    | _=>rw [WM] at h; simp [Ctx.sG] at h
   ·rename_i x y t u ha ht
    intro h
    have F5:args= #[x,y]:=Array.toList_inj.1 ha
    have J3:argTypes= #[t,u]:=Array.toList_inj.1 ht
    subst F5; subst J3
    have hx:=rS t x
    have hy:=rS u y
    have h:X.u5 m t (evp [] t x) (evp [] u y)= .w0 v δ:=by
     rcases h with h | h
     ·exact h
     ·exfalso; revert h; simp only [Ctx.u5]; repeat' split
      all_goals simp
    cases WM:evp [] t x with
    | c a =>
     cases We:evp [] u y with
     | c b =>
      rw [WM,We] at h
      rw [WM] at hx; rw [We] at hy
      have hau:a≠ .un:=by
       rintro rfl
       cases he:X.lT t<;>simp [Ctx.u5,he,Lk.dst] at h
      have hbu:b≠ .un:=by
       rintro rfl
       cases he:X.lT t<;>cases hq:m.dst a<;>simp [Ctx.u5,he,hq,Lk.vw,Vw.ct] at h
      obtain ⟨n,w',γ',rfl,g1,g2⟩:=M0 (ty:=type) (u:=u) hX hR cz hm (bq.to hx hau) (bq.to hy hbu) h
      refine ⟨.value (goInt n),_,w',γ',?_,.inl rfl,rfl,g2⟩
      simp only [Go.execOp,resolve,invoke,Sem.run_bind,Sem.run_pure,Result.andThen_ok,builtin,List.map_toArray,List.map,g1]
     | _=>rw [WM,We] at h; simp [Ctx.u5] at h
    | _=>rw [WM] at h; simp [Ctx.u5] at h
   ·intro h; exfalso; revert h; simp only [WW]; repeat' split
    all_goals simp
   ·intro h; exfalso; revert h; simp only [WW]; repeat' split
    all_goals simp
   ·simp
  | value f=>simp [cd] at h
  | invoke r n=>simp [cd] at h
 | move x=>simp [cd] at h
 | assign x=>simp [cd] at h
 | pick c a b =>
  exfalso; revert h; simp only [cd]; repeat' split
  all_goals simp
 | build t ps =>
  exfalso; revert h; simp only [cd]; repeat' split
  all_goals simp
 | load t x =>
  exfalso; revert h; simp only [cd]; repeat' split
  all_goals simp
 | nilCheck x =>
  exfalso; revert h; simp only [cd]; repeat' split
  all_goals simp
 | binOp op t x y c =>
  exfalso; revert h; simp only [cd,Ctx.FK]
  have hb:∀ (a b:AV),¬ (m7 op a b= .w0 v δ\/m7 op a b= .w true v δ):=by
   intro a b; simp only [m7]; repeat' split
   all_goals simp
  repeat' split
  all_goals first | exact hb _ _ | simp
 | unOp op t x =>
  exfalso; revert h; simp only [cd,W3]; repeat' split
  all_goals simp
 | convert t u x =>
  exfalso; revert h; simp only [cd,Ctx.Lj]; repeat' split
  all_goals simp
 | makeFunc fn first caps =>
  exfalso; revert h; cases fn<;>simp only [cd]<;>repeat' split
  all_goals simp
 | slice t x lo hi mx =>
  exfalso; revert h; simp only [cd]
  have hb:∀ (a:AV) (l k:Option Int),¬ (m.o0 a l k= .w0 v δ\/m.o0 a l k= .w true v δ):=by
   intro a l k; simp only [Lk.o0]; repeat' split
   all_goals simp
  repeat' split
  all_goals first | exact hb _ _ _ | simp
 | fieldAddr t x f =>
  exfalso; revert h; simp only [cd]; repeat' split
  all_goals simp
 | field t x f =>
  exfalso; revert h; simp only [cd]; repeat' split
  all_goals simp
 | indexAddr t x i =>
  exfalso; revert h; simp only [cd,Lk.q7]; repeat' split
  all_goals simp
 | index t x i =>
  exfalso; revert h; simp only [cd]; repeat' split
  all_goals simp
 | extract x i =>
  exfalso; revert h; simp only [cd]; repeat' split
  all_goals simp
 | _=>simp [cd] at h
structure Rb where
 r:Nat->Option (Nat×Nat)
 d:Option Ow
 v:Nat->Option Ow
def ab0 (k d:Nat):Option Ow:=match eG d with | true=>some (.r k) | false=>match d with | 3=>some .fz | _=>none
def acy (k d e c:Nat):Option Ow:=match d with | 5=>some (.n k e c) | 4=>some .fz | 3=>some .fz | _=>none
def Rb.f (a:Rb):Ow->Option Ow
 | .r r=>match a.r r with | some (k,d)=>ab0 k d | none=>a.d
 | .n r e c=>match a.r r with | some (k,d)=>acy k d e c | none=>a.d
 | .v k=>a.v k
 | .fz=>some .fz
 | .x=>some .x
theorem qT {d a:Nat} (h:oq d a=true):d=1\/(d=2/\eG a=true)\/(d=3/\(a=3\/a=4\/a=5))\/(d=4/\(a=4\/a=5))\/(d=5/\a=5):=by
 revert h; simp only [oq]; split
 ·simp
 ·intro h; simp [h]
 ·split<;>simp
 ·split<;>simp
 ·split<;>simp
 ·simp
theorem cX.relabel {a:Rb} {O O':OM} {r k d:Nat} {row:Row} {v:Value} {cs:List Value} (h:cX X O w r row v cs) (ha:eG row.ow=true->a.r r=some (k,d)) (hle:oq d row.ow=true)
  (hb:∀ g o,w.heap[g]? =some o->R9 r row.ow (O g)->w'.heap[g]? =some o/\O' g=(O g).bind a.f):cX X O' w' k { row with ow:=d } v cs:=by
 obtain ⟨τ,xs,ow⟩:=row
 simp only at ha hle hb
 have no:(none:Option Ow).bind a.f=none:=rfl
 have fz:(some Ow.fz).bind a.f=some .fz:=rfl
 refine h.re hle (fun g o hg hi=> ?_) (fun e c g o hg hi=> ?_)
 ·obtain ⟨h1,h2⟩:=hb g o hg (.inl hi)
  refine ⟨h1,?_⟩
  rw [h2]
  simp only at hi
  cases gV:eG ow with
  | true =>
   have h3:dU r ow= .own (.r r):=by simp [dU,gV]
   rw [h3] at hi
   have hi:O g=some (.r r):=hi
   rw [hi]
   show In (dU k d) (a.f (.r r))
   simp only [Rb.f,ha gV]
   rcases qT hle with rfl | ⟨rfl,_⟩ | ⟨rfl,_⟩ | ⟨rfl,_⟩ | ⟨rfl,_⟩
   ·exact .inl rfl
   all_goals exact rfl
  | false =>
   have ac0:ow≠4/\ow≠5:=by constructor<;>(rintro rfl; simp [eG] at gV)
   have h3:(ow=3/\dU r ow= .fz)\/(ow≠3/\dU r ow= .ni):=by
    by_cases h:ow=3
    ·subst h; exact .inl ⟨rfl,rfl⟩
    ·refine .inr ⟨h,?_⟩
     simp only [dU,gV]
     try (split<;>first | exact absurd rfl h | rfl)
   rcases h3 with ⟨rfl,h3⟩ | ⟨Xg,h3⟩
   ·have hi:O g=some .fz:=hi
    rw [hi,fz]
    rcases qT hle with rfl | ⟨_,h⟩ | ⟨rfl,_⟩ | ⟨_,h⟩ | ⟨_,h⟩
    ·exact .inr rfl
    ·rw [gV] at h; cases h
    ·exact rfl
    ·rcases h with h | h<;>cases h
    ·cases h
   ·rw [h3] at hi
    rcases qT hle with rfl | ⟨_,h⟩ | ⟨_,h⟩ | ⟨_,h⟩ | ⟨_,h⟩
    ·rcases hi with hi | hi<;>rw [hi]
     ·exact .inl rfl
     ·exact .inr rfl
    ·rw [gV] at h; cases h
    ·omega
    ·omega
    ·omega
 ·obtain ⟨h1,h2⟩:=hb g o hg (.inr ⟨e,c,hi⟩)
  refine ⟨h1,?_⟩
  rw [h2]
  simp only at hi
  by_cases h5:ow=5
  ·subst h5
   have hi:O g=some (.n r e c):=hi
   rw [hi]
   show In (dY k e c d) (a.f (.n r e c))
   simp only [Rb.f,ha rfl]
   rcases qT hle with rfl | ⟨rfl,_⟩ | ⟨rfl,_⟩ | ⟨rfl,_⟩ | ⟨rfl,_⟩
   ·exact .inl rfl
   ·exact .inl rfl
   all_goals exact rfl
  ·by_cases h43:ow=4\/ow=3
   ·have hi:O g=some .fz:=by rcases h43 with rfl | rfl<;>exact hi
    rw [hi,fz]
    rcases qT hle with rfl | ⟨rfl,_⟩ | ⟨rfl,_⟩ | ⟨rfl,_⟩ | ⟨rfl,h⟩
    ·exact .inr rfl
    ·exact .inr rfl
    ·exact rfl
    ·exact rfl
    ·exact absurd h h5
   ·have h3:dY r e c ow= .ni:=by
     simp only [dY]
     try (split<;>first | rfl | (exfalso; omega))
    rw [h3] at hi
    rcases qT hle with rfl | ⟨rfl,_⟩ | ⟨rfl,h⟩ | ⟨rfl,h⟩ | ⟨rfl,h⟩
    ·rcases hi with hi | hi<;>rw [hi]
     ·exact .inl rfl
     ·exact .inr rfl
    ·rcases hi with hi | hi<;>rw [hi]
     ·exact .inl rfl
     ·exact .inr rfl
    ·omega
    ·omega
    ·omega
theorem Hf {O O':OM} {k:Nat} {row:Row} {v:Value} {cs:List Value} (h:cX X O w k row v cs)
  (hf:∀ g o,w.heap[g]? =some o->R9 k row.ow (O g)->w'.heap[g]? =some o/\O' g=O g):cX X O' w' k row v cs:=by
 refine ⟨h.top.re (c':=dU k row.ow) (fun g o hg hi=> ?_) id,fun e c ct he hc=> ?_⟩
 ·obtain ⟨h1,h2⟩:=hf g o hg (.inl hi); exact ⟨h1,h2▸hi⟩
 ·obtain ⟨u,hu,hr⟩:=h.rU e c ct he hc
  exact ⟨u,hu,hr.re (fun g o hg hi=>by obtain ⟨h1,h2⟩:=hf g o hg (.inr ⟨e,c,hi⟩); exact ⟨h1,h2▸hi⟩) id⟩
inductive lU (m:Lk) (γ:Gh):List AV->List Value->Prop
 | nil:lU m γ [] []
 | cons {x:AV} {v:Value} {l:List AV} {u:List Value}:bq m γ x v->lU m γ l u->lU m γ (x::l) (v::u)
structure TR (X:Ctx) (g:uw) (cn:List AC) (cP:List (List Ct)) (γ:Gh) (w:World) (args:List Value):Prop where
 rel:Rel X (entry g cn cP).lk γ w
 top:∀ b,w.heap.size<=b->γ.O b=none
 args:lU (entry g cn cP).lk γ (se g.am 0 cn).1 args
def LQ (X:Ctx) (O:OM) (w:World) (md:Nat) (τ:Ty) (xs:List (El τ)) (v:Value) (ks:List Nat):Prop :=
 (xs=[]/\v= .slice none 0 0/\ks=[])\/∃ key cs,ks=[key]/\cX X O w key ⟨τ,xs,md⟩ v cs
def rX (X:Ctx) (e0:Lk) (γ0:Gh) (K:List Nat) (O:OM) (w:World) (md:Nat):Rc->Value->List Nat->Prop
 | .c (.l τ xs),v,ks=>(sf md=true\/ks=[])/\LQ X O w md τ xs v ks
 | .c .u,v,ks=>ks=[]/\v.oneCell'=true
 | .c ct,v,ks=>ks=[]/\v=gJ ct
 | .m ct,v,ks=>ks=[]/\v.oneCell'=true/\CtV (fun g=>∃ r,r∉K/\MM r (O g)) w ct v
 | .al p j e c,v,ks=>ks=[]/\∃ row τ ys,j<64/\100000+p*64+j<200000/\e0.r (100000+p*64+j)=some row/\e<row.xs.length/\(row.cs e)[c]? =some (.l τ ys)/\(γ0.cv (100000+p*64+j))[e*sz row.τ+c]? =some v
 | .aw p j,v,ks=>ks=[]/\∃ row,j<64/\100000+p*64+j<200000/\e0.r (100000+p*64+j)=some row/\v=γ0.rv (100000+p*64+j)
 | .un,v,ks=>ks=[]/\v.oneCell'=true
inductive nr (X:Ctx) (e0:Lk) (γ0:Gh) (K:List Nat) (O:OM) (w:World):List Nat->List Rc->List Value->List Nat->Prop
 | nil {ms:List Nat}:nr X e0 γ0 K O w ms [] [] []
 | cons {ms:List Nat} {y:Rc} {v:Value} {k:List Nat} {ys:List Rc} {vs:List Value} {ks:List Nat}:rX X e0 γ0 K O w (hd ms) y v k->nr X e0 γ0 K O w (tl ms) ys vs ks ->
   nr X e0 γ0 K O w ms (y::ys) (v::vs) (k++ks)
inductive qH (X:Ctx) (e0:Lk) (γ0:Gh) (K:List Nat) (O:OM) (w:World):List (List Nat)->List (Bool×List Rc)->List Value->List Nat->Prop
 | nil {ms:List (List Nat)}:qH X e0 γ0 K O w ms [] [] []
 | cons {ms:List (List Nat)} {b:Bool} {l:List Rc} {us:List Value} {v:Value} {k:List Nat} {ys:List (Bool×List Rc)} {vs:List Value} {ks:List Nat}:nr X e0 γ0 K O w (ov ms) l us k ->
   (b=true->v= .agg us.toArray)->(b=false->us=[v])->qH X e0 γ0 K O w (tl ms) ys vs ks->qH X e0 γ0 K O w ms ((b,l)::ys) (v::vs) (k++ks)
def vS (X:Ctx) (e0:Lk) (γ0:Gh) (K:List Nat) (O:OM) (w:World) (rl:List (List Nat)):RC->Value->List Nat->Prop
 | .u,v,ks=>ks=[]/\v= .tuple #[]
 | .c x,v,ks=>rX X e0 γ0 K O w (hd (ov rl)) x v ks
 | .a l,v,ks=>∃ us,v= .agg us.toArray/\nr X e0 γ0 K O w (ov rl) l us ks
 | .t l,v,ks=>∃ us,v= .tuple us.toArray/\qH X e0 γ0 K O w rl l us ks
 | .np l,v,ks=>∃ cv g cur e,1000<=cv/\v= .pointer (some ⟨g,0,none⟩)/\O g=some (.v cv)/\w.heap[g]? =some (.cells cur e (0,0))/\nr X e0 γ0 K O w (ov rl) l cur.toList ks
def s9 (X:Ctx) (γ0:Gh) (O:OM) (w:World) (key md:Nat) (y:Ct) (v:Value) (ks:List Nat):Prop:=match md with
 | 0=>ks=[]/\v=gJ y/\(match y with | .u=>False | .l _ _=>False | _=>True)
 | 1=>ks=[]/\v=γ0.rv key
 | md=>match y with | .l τ xs=>sf md=true/\LQ X O w md τ xs v ks | _=>False
inductive p7 (X:Ctx) (γ0:Gh) (O:OM) (w:World):Nat->List Nat->List Ct->List Value->List Nat->Prop
 | nil {k:Nat} {ms:List Nat}:p7 X γ0 O w k ms [] [] []
 | cons {k:Nat} {ms:List Nat} {y:Ct} {v:Value} {a:List Nat} {ys:List Ct} {vs:List Value} {ks:List Nat}:s9 X γ0 O w k (hd ms) y v a->p7 X γ0 O w (k+1) (tl ms) ys vs ks ->
   p7 X γ0 O w k ms (y::ys) (v::vs) (a++ks)
inductive xE (X:Ctx) (γ0:Gh) (O:OM) (w:World):Nat->List (List Nat)->List (List Ct)->List Nat->Prop
 | nil {k:Nat} {ms:List (List Nat)}:xE X γ0 O w k ms [] []
 | cons {k:Nat} {ms:List (List Nat)} {l:List Ct} {a:List Nat} {vo:List (List Ct)} {ks:List Nat} {cur:Array Value} {e:TypeId}:O (γ0.vb k)=some (.v k)->w.heap[γ0.vb k]? =some (.cells cur e (0,0)) ->
   p7 X γ0 O w (300000+k*64) (ov ms) l cur.toList a->xE X γ0 O w (k+1) (tl ms) vo ks->xE X γ0 O w k ms (l::vo) (a++ks)
inductive r8 (X:Ctx) (γ0:Gh) (O:OM) (w:World):Nat->List AC->List Ct->List Nat->Prop
 | nil {p:Nat}:r8 X γ0 O w p [] [] []
 | io {p:Nat} {τ:Ty} {xs xs':List (El τ)} {cs:List Value} {l:List AC} {ys:List Ct} {ks:List Nat}:cX X O w (200000+p*64) ⟨τ,xs',5⟩ (γ0.rv (200000+p*64)) cs->r8 X γ0 O w (p+1) l ys ks ->
   r8 X γ0 O w p (.io τ xs::l) (.l τ xs'::ys) ((200000+p*64)::ks)
 | skip {p:Nat} {x:AC} {l:List AC} {ys:List Ct} {ks:List Nat}:(∀ τ xs,x≠ .io τ xs)->r8 X γ0 O w (p+1) l ys ks->r8 X γ0 O w p (x::l) ys ks
def FE (X:Ctx) (g:uw) (cn:List AC) (cP:List (List Ct)) (γ0:Gh) (w0:World) (cr:CR) (v:Value) (w:World):Prop :=
 ∃ O ka kb kc,Fr γ0.O w0 O w/\(ka++(kb++kc)).Nodup/\vS X (entry g cn cP).lk γ0 (ka++(kb++kc)) O w g.rl cr.res v ka/\xE X γ0 O w 0 g.vl cr.vo kb/\r8 X γ0 O w 0 cn cr.io kc
def gD {α R:Type} (T:(α->Option R)->Option R):Prop:=∃ o:Option α,∀ k,T k=o.bind k
structure CH {R:Type} (X:Ctx) (g:uw) (f:FuncId) (F:Ac R):Prop where
 Gf:∀ cn cP,gD (F cn cP)
 ok:∀ (cn:List AC) (cP:List (List Ct)) (cr:CR),(∀ k,F cn cP k=k cr)->∀ (γ:Gh) (w:World) (args:List Value),TR X g cn cP γ w args ->
  Calls X.P f args.toArray w fun e w'=>∃ v,e= .returned v/\FE X g cn cP γ w cr v w'
def vU (P:Program) (f:FuncId):Prop:=∃ fn,P.funcs[f]? =some fn/\(fn.name == "runtime.NumGoroutine")=false/\fn.body.isNone=false
structure sE {R:Type} (X:Ctx) (E:Env R):Prop where
 fn:∀ f g,E.sg f=some g->CH X g f (E.fn f)/\vU X.P f
 Gf:∀ f cn cP,gD (E.fn f cn cP)
def md (ms:List Nat) (i:Nat):Nat:=hd (ms.drop i)
def LZ {α:Type} (ms:List (List α)) (i:Nat):List α:=ov (ms.drop i)
theorem Lb {α:Type} (l:List α) (i:Nat):(tl l).drop i=l.drop (i+1):=by cases l<;>simp [tl]
theorem zW (l:List Nat) (i:Nat):md (tl l) i=md l (i+1):=by simp only [md,Lb]
theorem Fi {α:Type} (l:List (List α)) (i:Nat):LZ (tl l) i=LZ l (i+1):=by simp only [LZ,Lb]
theorem w7 (l:List Nat):md l 0=hd l:=rfl
theorem GI {α:Type} (l:List (List α)):LZ l 0=ov l:=rfl
def uB (key:Nat):Ct->Cv
 | .u=> .un | .b x=> .b x | .i a n=> .i a n | .s x=> .s x | .l _ _=> .sw key
theorem Bv (k w:Nat):∀ (ys:List Ct) (ms:List Nat) (j i:Nat),((oT k w ms j ys).1)[i]? =(ys[i]?).map (uB (k+j+i))
 | [],ms,j,i=>by simp [oT]
 | y::ys,ms,j,i=>by
  have ih:=Bv k w ys (tl ms) (j+1)
  cases i with
  | zero=>cases y<;>simp [oT,uB]
  | succ i =>
   have:=ih i
   cases y<;>simp [oT,this,show k+(j+1)+i=k+j+(i+1) by omega]
theorem s6 (k w:Nat):∀ (ys:List Ct) (ms:List Nat) (j:Nat),((oT k w ms j ys).1).length=ys.length
 | [],ms,j=>by simp [oT]
 | y::ys,ms,j=>by have ih:=s6 k w ys (tl ms) (j+1); cases y<;>simp [oT,ih]
theorem wA (k w:Nat):∀ (ys:List Ct) (ms:List Nat) (j:Nat) (key:Nat) (row:Row),(key,row)∈(oT k w ms j ys).2 ↔
  ∃ i τ xs,ys[i]? =some (.l τ xs)/\key=k+j+i/\row=⟨τ,xs,kd w (md ms i)⟩
 | [],ms,j,key,row=>by simp [oT]
 | y::ys,ms,j,key,row=>by
  have ih:=wA k w ys (tl ms) (j+1) key row
  have rest:(∃ i τ xs,ys[i]? =some (.l τ xs)/\key=k+(j+1)+i/\row=⟨τ,xs,kd w (md (tl ms) i)⟩) ↔
    ∃ i τ xs,(y::ys)[i+1]? =some (.l τ xs)/\key=k+j+(i+1)/\row=⟨τ,xs,kd w (md ms (i+1))⟩:=by
   simp only [zW,List.getElem?_cons_succ,show ∀ i,k+(j+1)+i=k+j+(i+1) by intro i; omega]
  have split:(∃ i τ xs,(y::ys)[i]? =some (.l τ xs)/\key=k+j+i/\row=⟨τ,xs,kd w (md ms i)⟩) ↔
    ((∃ τ xs,y= .l τ xs/\key=k+j/\row=⟨τ,xs,kd w (md ms 0)⟩) \/
    ∃ i τ xs,(y::ys)[i+1]? =some (.l τ xs)/\key=k+j+(i+1)/\row=⟨τ,xs,kd w (md ms (i+1))⟩):=by
   constructor
   ·rintro ⟨i,τ,xs,h1,h2,h3⟩
    cases i with
    | zero=>exact .inl ⟨τ,xs,by simpa using h1,h2,h3⟩
    | succ i=>exact .inr ⟨i,τ,xs,h1,h2,h3⟩
   ·rintro (⟨τ,xs,h1,h2,h3⟩ | ⟨i,τ,xs,h1,h2,h3⟩)
    ·exact ⟨0,τ,xs,by simp [h1],h2,h3⟩
    ·exact ⟨i+1,τ,xs,h1,h2,h3⟩
  rw [split,← rest,← ih]
  cases y with
  | l τ xs =>
   simp only [oT,zI,zG]
   constructor
   ·rintro (⟨h1,h2⟩ | h)
    ·refine .inl ⟨τ,xs,rfl,h1,?_⟩
     rw [h2]; simp [w7]
    ·exact .inr h
   ·rintro (⟨τ',xs',h1,h2,h3⟩ | h)
    ·cases h1
     refine .inl ⟨h2,?_⟩
     rw [h3]; simp [w7]
    ·exact .inr h
  | _=>simp [oT]
def acl:AC->List Ct
 | .c y=>[y] | .a ys=>ys | _=>[]
def DX (m P:Nat):AC->AV
 | .c y=> .c (uB (100000+P*64) y)
 | .a ys=> .a (oT (100000+P*64) (kd 0 m) [] 0 ys).1
 | .p k=> .c (.pv k 0)
 | .f g ks=> .c (.fn g ks)
 | .al k c=> .c (.sw (300000+k*64+c))
 | .io _ _=> .c (.sw (200000+P*64))
def Af (m P:Nat) (x:AC) (key:Nat) (row:Row):Prop :=
 (∃ j τ xs,(acl x)[j]? =some (.l τ xs)/\key=100000+P*64+j/\row=⟨τ,xs,kd 0 m⟩)\/∃ τ xs,x= .io τ xs/\key=200000+P*64/\row=⟨τ,xs,5⟩
theorem T3 (m n:Nat):kd (kd 0 m) n=kd 0 m:=by cases m<;>rfl
theorem Ed (am:List Nat) (p:Nat) (x:AC) (l:List AC):se am p (x::l)=(DX (hd am) p x::(se (tl am) (p+1) l).1,
  (match x with
   | .c y=>(oT (100000+p*64) (kd 0 (hd am)) [] 0 [y]).2
   | .a ys=>(oT (100000+p*64) (kd 0 (hd am)) [] 0 ys).2
   | .io τ xs=>[(200000+p*64,⟨τ,xs,5⟩)]
   | _=>[])++(se (tl am) (p+1) l).2):=by
 cases x with
 | c y =>
  simp only [se]
  cases y<;>simp [oT,DX,uB]
 | a ys=>simp only [se,DX]
 | _=>simp [se,DX]
theorem xc:∀ (cn:List AC) (am:List Nat) (p i:Nat),((se am p cn).1)[i]? =(cn[i]?).map (DX (md am i) (p+i))
 | [],am,p,i=>by simp [se]
 | x::l,am,p,i=>by
  rw [Ed]
  cases i with
  | zero=>simp [w7]
  | succ i=>simp [xc l (tl am) (p+1) i,zW,show p+1+i=p+(i+1) by omega]
theorem BJ:∀ (cn:List AC) (am:List Nat) (p:Nat) (key:Nat) (row:Row),(key,row)∈(se am p cn).2↔∃ i x,cn[i]? =some x/\Af (md am i) (p+i) x key row
 | [],am,p,key,row=>by simp [se]
 | x::l,am,p,key,row=>by
  have ih:=BJ l (tl am) (p+1) key row
  have rest:(∃ i x,l[i]? =some x/\Af (md (tl am) i) (p+1+i) x key row)↔∃ i y,(x::l)[i+1]? =some y/\Af (md am (i+1)) (p+(i+1)) y key row:=by
   simp only [zW,List.getElem?_cons_succ,show ∀ i,p+1+i=p+(i+1) by intro i; omega]
  have split:(∃ i y,(x::l)[i]? =some y/\Af (md am i) (p+i) y key row)↔Af (hd am) p x key row\/∃ i y,(x::l)[i+1]? =some y/\Af (md am (i+1)) (p+(i+1)) y key row:=by
   constructor
   ·rintro ⟨i,y,h1,h2⟩
    cases i with
    | zero=>simp only [List.getElem?_cons_zero,zA] at h1; subst h1; exact .inl h2
    | succ i=>exact .inr ⟨i,y,h1,h2⟩
   ·rintro (h | ⟨i,y,h1,h2⟩)
    ·exact ⟨0,x,rfl,h⟩
    ·exact ⟨i+1,y,h1,h2⟩
  rw [split,← rest,← ih,Ed]
  simp only [zH]
  refine or_congr ?_ Iff.rfl
  cases x with
  | c y=>simp only [wA,T3,Af,acl]; simp
  | a ys=>simp only [wA,T3,Af,acl]; simp
  | io τ xs =>
   simp only [Af,acl,zS,zG]
   constructor
   ·rintro ⟨h1,h2⟩; exact .inr ⟨τ,xs,rfl,h1,h2⟩
   ·rintro (⟨j,_,_,h,_⟩ | ⟨_,_,h0,h1,h2⟩)
    ·simp at h
    ·cases h0; exact ⟨h1,h2⟩
  | _=>simp [Af,acl]
theorem D5 (k:Nat) (ms:List (List Nat)) (l:List Ct) (cP:List (List Ct)):Bc k ms (l::cP) =
  ((k,(oT (300000+k*64) 0 (ov ms) 0 l).1)::(Bc (k+1) (tl ms) cP).1,(oT (300000+k*64) 0 (ov ms) 0 l).2++(Bc (k+1) (tl ms) cP).2):=rfl
theorem Cq:∀ (cP:List (List Ct)) (vl:List (List Nat)) (k:Nat) (key:Nat) (row:Row),(key,row)∈(Bc k vl cP).2 ↔
  ∃ i l j τ xs,cP[i]? =some l/\l[j]? =some (.l τ xs)/\key=300000+(k+i)*64+j/\row=⟨τ,xs,kd 0 (md (LZ vl i) j)⟩
 | [],vl,k,key,row=>by simp [Bc]
 | x::cP,vl,k,key,row=>by
  have ih:=Cq cP (tl vl) (k+1) key row
  rw [D5,zH,ih,wA]
  constructor
  ·rintro (⟨j,τ,xs,h1,h2,h3⟩ | ⟨i,l,j,τ,xs,h1,h2,h3,h4⟩)
   ·exact ⟨0,x,j,τ,xs,rfl,h1,by omega,h3⟩
   ·exact ⟨i+1,l,j,τ,xs,by simpa using h1,h2,by omega,by rw [h4,Fi]⟩
  ·rintro ⟨i,l,j,τ,xs,h1,h2,h3,h4⟩
   cases i with
   | zero=>simp only [List.getElem?_cons_zero,zA] at h1; subst h1; exact .inl ⟨j,τ,xs,h2,by omega,h4⟩
   | succ i=>exact .inr ⟨i,l,j,τ,xs,by simpa using h1,h2,by omega,by rw [h4,Fi]⟩
theorem On:∀ (cP:List (List Ct)) (vl:List (List Nat)) (k n:Nat),lk (Bc k vl cP).1 n=if n<k then none else (cP[n-k]?).map fun l=>(oT (300000+n*64) 0 (LZ vl (n-k)) 0 l).1
 | [],vl,k,n=>by simp [Bc,lk]
 | x::cP,vl,k,n=>by
  rw [D5]
  simp only [lk,On cP (tl vl) (k+1) n]
  cases h:Nat.beq k n with
  | true=>have:=aM h; subst this; simp [GI]
  | false =>
   have cT:k≠n:=by rintro rfl; rw [Nat.beq_refl] at h; cases h
   simp only
   by_cases h1:n<k
   ·rw [if_pos h1,if_pos (by omega)]
   ·rw [if_neg h1,if_neg (by omega)]
    obtain ⟨d,rfl⟩:∃ d,n=k+1+d:=⟨n-k-1,by omega⟩
    simp [Fi,show k+1+d-k=d+1 by omega,show k+1+d-(k+1)=d by omega]
theorem Ld (g:uw) (cn:List AC) (cP:List (List Ct)) (k:Nat):(entry g cn cP).lk.v k=(cP[k]?).map fun l=>(oT (300000+k*64) 0 (LZ g.vl k) 0 l).1:=by
 show lk (Bc 0 g.vl cP).1 k=_
 rw [On]; simp
theorem GZ (g:uw) (cn:List AC) (cP:List (List Ct)):(entry g cn cP).rs=(se g.am 0 cn).2++(Bc 0 g.vl cP).2:=rfl
theorem Kv {g:uw} {cn:List AC} {cP:List (List Ct)} {key:Nat} {row:Row} (h:(entry g cn cP).lk.r key=some row) :
  (∃ p x,cn[p]? =some x/\Af (md g.am p) p x key row)\/∃ i l j τ xs,cP[i]? =some l/\l[j]? =some (.l τ xs)/\key=300000+i*64+j/\row=⟨τ,xs,kd 0 (md (LZ g.vl i) j)⟩:=by
 have h:lk (entry g cn cP).rs key=some row:=h
 have:=cU h
 rw [GZ,zH,BJ,Cq] at this
 simpa using this
theorem pb {α:Type} {l:List (Nat×α)} {k:Nat} {v:α} (h:(k,v)∈l):∃ u,lk l k=some u:=by
 cases hl:lk l k with
 | some u=>exact ⟨u,rfl⟩
 | none=>exact absurd (mem_keys h) (cL.1 hl)
theorem tX {g:uw} {cn:List AC} {cP:List (List Ct)} {key:Nat} {row:Row} (h:(∃ p x,cn[p]? =some x/\Af (md g.am p) p x key row)\/∃ i l j τ xs,cP[i]? =some l/\l[j]? =some (.l τ xs)/\key=300000+i*64+j/\row=⟨τ,xs,kd 0 (md (LZ g.vl i) j)⟩) :
  ∃ u,(entry g cn cP).lk.r key=some u:=by
 have:(key,row)∈(entry g cn cP).rs:=by
  rw [GZ,zH,BJ,Cq]
  simpa using h
 exact pb this
def v8 (key d:Nat):Nat->List Cv->List (Nat×(Nat×Nat))
 | _,[]=>[]
 | j,.sw r::l=>(r,(key+j,d))::v8 key d (j+1) l
 | j,_::l=>v8 key d (j+1) l
def IB (n:Nat):Bool:=match n with | 4=>true | 5=>true | _=>false
def Mh (n:Nat):Bool:=match n with | 9=>true | _=>false
def NP:AV->List Cv
 | .c x=>[x] | .a cs=>cs | _=>[]
def u4:List Nat->Nat->List AV->List (Nat×(Nat×Nat))
 | _,_,[]=>[]
 | am,P,v::l=>(match IB (hd am) with | true=>v8 (100000+P*64) (hd am) 0 (NP v) | false=>[])++u4 (tl am) (P+1) l
def Gg:List Nat->Nat->List AV->List (Nat×(Nat×Nat))
 | _,_,[]=>[]
 | am,P,v::l=>(match Mh (hd am) with | true=>v8 (200000+P*64) 5 0 (NP v) | false=>[])++Gg (tl am) (P+1) l
def Ay (key:Nat):List Nat->Nat->List Cv->List (Nat×(Nat×Nat))
 | _,_,[]=>[]
 | ms,j,c::l=>(match hd ms with | 0=>[] | 1=>[] | w=>(match c with | .sw r=>[(r,(key+j,w))] | _=>[]))++Ay key (tl ms) (j+1) l
def oR (m:Lk):Nat->List (List Nat)->List Nat->List (Nat×(Nat×Nat))
 | _,_,[]=>[]
 | k,vl,v::l=>(match m.v v with | some cs=>Ay (300000+k*64) (ov vl) 0 cs | none=>[])++oR m (k+1) (tl vl) l
theorem P5 {n:Nat} (h:n≠9):Mh n=false:=by
 unfold Mh; split
 ·exact absurd rfl h
 ·rfl
theorem bC {α:Type} (a b:List (Nat×α)):keys (a++b)=keys a++keys b:=by simp [keys_eq]
theorem Ky (key d:Nat):∀ (cs:List Cv) (j i r:Nat),cs[i]? =some (.sw r)->(r,(key+(j+i),d))∈v8 key d j cs
 | [],j,i,r,h=>by simp at h
 | c::cs,j,i,r,h=>by
  cases i with
  | zero=>simp only [List.getElem?_cons_zero,zA] at h; subst h; simp [v8]
  | succ i =>
   have:=Ky key d cs (j+1) i r (by simpa using h)
   rw [show j+1+i=j+(i+1) by omega] at this
   cases c<;>simp only [v8]<;>first | exact zJ _ this | exact this
def OC (m:Lk) (d:Nat) (c:Cv):Prop:=(∃ r row,c= .sw r/\m.r r=some row/\oq d row.ow=true)\/(∃ τ,c= .nl τ)\/(∃ b,c= .b b)\/(∃ k n,c= .i k n)\/∃ s,c= .s s
theorem yx {d:Nat}:∀ {cs:List Cv} {g:List Nat},m.owned d cs=some g->(∀ key k j,keys (v8 key k j cs)=g)/\(∀ c∈cs,OC m d c/\∀ r,c= .sw r->r∈g)/\∀ r∈g,∃ row,m.r r=some row/\oq d row.ow=true
 | [],g,h=>by simp only [Lk.owned,zA] at h; subst h; simp [v8,keys]
 | c::cs,g,h=>by
  have flat:m.owned d cs=some g->(∀ r,c≠ .sw r)->OC m d c->(∀ key k j,v8 key k j (c::cs)=v8 key k (j+1) cs) ->
    (∀ key k j,keys (v8 key k j (c::cs))=g)/\(∀ x∈c::cs,OC m d x/\∀ r,x= .sw r->r∈g)/\∀ r∈g,∃ row,m.r r=some row/\oq d row.ow=true:=fun h cT ho hh=>by
   obtain ⟨h1,h2,h3⟩:=yx h
   refine ⟨fun key k j=>by rw [hh]; exact h1 _ _ _,fun x hx=> ?_,h3⟩
   rcases zI.1 hx with rfl | hx
   ·exact ⟨ho,fun r e=>absurd e (cT r)⟩
   ·exact h2 x hx
  cases c with
  | sw r =>
   simp only [Lk.owned] at h
   cases hr:m.r r with
   | none=>simp [hr] at h
   | some row =>
    cases ho:m.owned d cs with
    | none=>simp [hr,ho] at h
    | some k =>
     cases hle:oq d row.ow with
     | false=>simp [hr,ho,hle] at h
     | true =>
      simp only [hr,ho,hle,zA] at h; subst h
      obtain ⟨h1,h2,h3⟩:=yx ho
      refine ⟨fun key k' j=>by simp [v8,keys,h1],fun x hx=> ?_,fun s hs=>(zI.1 hs).elim (fun e=>e▸⟨row,hr,hle⟩) (h3 s)⟩
      rcases zI.1 hx with rfl | hx
      ·exact ⟨.inl ⟨r,row,rfl,hr,hle⟩,fun s e=>by cases e; simp⟩
      ·exact ⟨(h2 x hx).1,fun s e=>zJ _ ((h2 x hx).2 s e)⟩
  | nl τ=>exact flat (by simpa [Lk.owned] using h) (by simp) (.inr (.inl ⟨τ,rfl⟩)) (fun _ _ _=>rfl)
  | b x=>exact flat (by simpa [Lk.owned] using h) (by simp) (.inr (.inr (.inl ⟨x,rfl⟩))) (fun _ _ _=>rfl)
  | i k n=>exact flat (by simpa [Lk.owned] using h) (by simp) (.inr (.inr (.inr (.inl ⟨k,n,rfl⟩)))) (fun _ _ _=>rfl)
  | s x=>exact flat (by simpa [Lk.owned] using h) (by simp) (.inr (.inr (.inr (.inr ⟨x,rfl⟩)))) (fun _ _ _=>rfl)
  | _=>simp [Lk.owned] at h
def W4 (v:AV) (x:AC) (cs:List Cv) (ys:List Ct):Prop:=(v= .a cs/\x= .a ys)\/∃ c y,v= .c c/\x= .c y/\cs=[c]/\ys=[y]
def abp (m:Lk) (G:Nat->Nat->Nat->Prop) (F B:Nat->Prop) (I:Prop) (d P:Nat) (cs:List Cv) (ys ys':List Ct):Prop :=
 (d=0/\ys'=ys/\(∀ c∈cs,∀ r,c.row=some r->B r)/\(I->m.L3 cs=true))\/(d=7/\ys'=ys.map mU) \/
 (sf d=true/\ys'=ys/\(∀ c∈cs,OC m d c)/\(d=3->∀ c∈cs,∀ r,c= .sw r->F r)/\(d≠3->∀ j r,cs[j]? =some (.sw r)->G r (100000+P*64+j) d)/\(I->d=3))
inductive Bt (m:Lk) (κ:List Nat) (G:Nat->Nat->Nat->Prop) (F B:Nat->Prop) (I:Prop) (d P:Nat):AV->AC->Prop
 | ptr {k i:Nat}:¬ I->κ[i]? =some k->Bt m κ G F B I d P (.c (.pv k 0)) (.p i)
 | fn {f:Nat} {caps ks:List Nat}:¬ I->ks.length=caps.length->(∀ (i k:Nat),ks[i]? =some k->∃ v,caps[i]? =some v/\κ[k]? =some v)->Bt m κ G F B I d P (.c (.fn f caps)) (.f f ks)
 | val {v:AV} {x:AC} {cs:List Cv} {ys ys':List Ct}:W4 v x cs ys'->cs.length<=63->m.iJ cs=some ys->abp m G F B I d P cs ys ys'->Bt m κ G F B I d P v x
 | io {r:Nat} {τ:Ty} {xs:List (El τ)}:¬ I->d=9->m.r r=some ⟨τ,xs,5⟩->G r (200000+P*64) 5->Bt m κ G F B I d P (.c (.sw r)) (.io τ xs)
 | al {r v c:Nat} {cs:List Cv}:¬ I->d=8->κ[0]? =some v->m.v v=some cs->cs[c]? =some (.sw r)->Bt m κ G F B I d P (.c (.sw r)) (.al 0 c)
theorem Bt.mono {κ κ':List Nat} {G G':Nat->Nat->Nat->Prop} {F F' B B':Nat->Prop} {I I':Prop} {d P:Nat} {v:AV} {x:AC} (h:Bt m κ G F B I d P v x) (hκ:∀ (i k:Nat),κ[i]? =some k->κ'[i]? =some k)
  (hG:∀ r k d,G r k d->G' r k d) (hF:∀ r,F r->F' r) (hB:∀ r,B r->B' r) (hI:I'->I):Bt m κ' G' F' B' I' d P v x:=by
 cases h with
 | ptr h0 h1=>exact .ptr (fun h=>h0 (hI h)) (hκ _ _ h1)
 | fn h0 h1 h2=>exact .fn (fun h=>h0 (hI h)) h1 fun i k hk=>let ⟨v,h3,h4⟩:=h2 i k hk; ⟨v,h3,hκ _ _ h4⟩
 | val h1 h2 h3 h4 =>
  refine .val h1 h2 h3 ?_
  rcases h4 with ⟨a,b,c,e⟩ | h | ⟨a,b,c,e,f,g⟩
  ·exact .inl ⟨a,b,fun x hx r hr=>hB r (c x hx r hr),fun h=>e (hI h)⟩
  ·exact .inr (.inl h)
  ·exact .inr (.inr ⟨a,b,c,fun h x hx r hr=>hF r (e h x hx r hr),fun h j r hr=>hG _ _ _ (f h j r hr),fun h=>g (hI h)⟩)
 | io h0 h1 h2 h3=>exact .io (fun h=>h0 (hI h)) h1 h2 (hG _ _ _ h3)
 | al h0 h8 h1 h2 h3=>exact .al (fun h=>h0 (hI h)) h8 (hκ _ _ h1) h2 h3
theorem sR {v:Nat}:∀ {l:List Nat} {n k:Nat},nz v n l=some k->n<=k/\l[k-n]? =some v
 | [],n,k,h=>by simp [nz] at h
 | x::l,n,k,h=>by
  simp only [nz] at h
  cases hx:Nat.beq x v with
  | true=>rw [hx] at h; cases h; have:=aM hx; simp [this]
  | false =>
   rw [hx] at h
   obtain ⟨h1,h2⟩:=sR h
   refine ⟨by omega,?_⟩
   rw [show k-n=(k-(n+1))+1 by omega]; simpa using h2
theorem tY {v:Nat}:∀ {l:List Nat} {n:Nat},nz v n l=none->v∉l
 | [],n,_=>by simp
 | x::l,n,h=>by
  simp only [nz] at h
  cases hx:Nat.beq x v with
  | true=>rw [hx] at h; cases h
  | false =>
   rw [hx] at h
   simp only [zI,not_or]
   exact ⟨(by rintro rfl; rw [Nat.beq_refl] at hx; cases hx),tY h⟩
theorem KO {κ:List Nat} {v k:Nat} {κ':List Nat} (h:Nk κ v=(k,κ')):κ'[k]? =some v/\(∀ (i x:Nat),κ[i]? =some x->κ'[i]? =some x)/\(κ.Nodup->κ'.Nodup):=by
 simp only [Nk] at h
 cases hi:nz v 0 κ with
 | some j =>
  rw [hi] at h; cases h
  exact ⟨by simpa using (sR hi).2,fun _ _ h=>h,id⟩
 | none =>
  rw [hi] at h; cases h
  refine ⟨by simp,fun i x hx=> ?_,fun hn=> ?_⟩
  ·have:=(zU.1 hx).1
   rw [List.getElem?_append_left this]; exact hx
  ·rw [List.nodup_append]
   refine ⟨hn,by simp,?_⟩
   intro a ha b hb
   simp at hb; subst hb
   rintro rfl; exact tY hi ha
theorem Hg:∀ {vs κ ks κ':List Nat},B0 κ vs=(ks,κ')->ks.length=vs.length/\(∀ (i k:Nat),ks[i]? =some k->∃ v,vs[i]? =some v/\κ'[k]? =some v)/\(∀ (i x:Nat),κ[i]? =some x->κ'[i]? =some x)/\(κ.Nodup->κ'.Nodup)
 | [],κ,ks,κ',h=>by simp only [B0,zG] at h; obtain ⟨rfl,rfl⟩:=h; simp
 | v::vs,κ,ks,κ',h=>by
  simp only [B0] at h
  cases h1:Nk κ v with
  | mk k κ1 =>
   cases h2:B0 κ1 vs with
   | mk ks2 κ2 =>
    simp only [h1,h2,zG] at h
    obtain ⟨rfl,rfl⟩:=h
    obtain ⟨a1,a2,a3⟩:=KO h1
    obtain ⟨b1,b2,b3,b4⟩:=Hg h2
    refine ⟨by simp [b1],fun i k hk=> ?_,fun i x hx=>b3 _ _ (a2 _ _ hx),fun hn=>b4 (a3 hn)⟩
    cases i with
    | zero=>simp only [List.getElem?_cons_zero,zA] at hk; subst hk; exact ⟨v,rfl,b3 _ _ a1⟩
    | succ i=>simpa using b2 i k (by simpa using hk)
theorem D8 {r:Nat}:∀ {cs:List Cv} {n c:Nat},xI r n cs=some c->n<=c/\cs[c-n]? =some (.sw r)
 | [],n,c,h=>by simp [xI] at h
 | x::cs,n,c,h=>by
  have rest:xI r (n+1) cs=some c->n<=c/\(x::cs)[c-n]? =some (.sw r):=fun h=>by
   obtain ⟨h1,h2⟩:=D8 h
   refine ⟨by omega,?_⟩
   rw [show c-n=(c-(n+1))+1 by omega]; simpa using h2
  cases x with
  | sw s =>
   simp only [xI] at h
   cases hs:Nat.beq s r with
   | true=>rw [hs] at h; cases h; have:=aM hs; simp [this]
   | false=>rw [hs] at h; exact rest h
  | _=>exact rest (by simpa [xI] using h)
theorem S5 {x:Cv} {y:Ct} (h:m.ct x=some y):m.iJ [x]=some [y]:=by simp [Lk.iJ,h]
theorem Jj (l:List Ct):sm mU l=l.map mU:=xK _ _
structure KB (m:Lk) (am:List Nat) (P:Nat) (jj:List AV) (κ0:List Nat) (ar:AR):Prop where
 len:ar.cn.length=jj.length
 pre:∀ (i k:Nat),κ0[i]? =some k->ar.κ[i]? =some k
 nd:κ0.Nodup->ar.κ.Nodup
 gone:keys (u4 am P jj)=ar.gone
 io:keys (Gg am P jj)=ar.io
 arg:∀ i v,jj[i]? =some v->∃ x,ar.cn[i]? =some x/\Bt m ar.κ (fun r k d=>(r,(k,d))∈u4 am P jj++Gg am P jj) (·∈ar.fz) (·∈ar.ni) (ar.lM=true) (md am i) (P+i) v x
 Ym:ar.lM=true->∀ r∈ar.ni,∀ row,m.r r=some row->eG row.ow=false
 X4:ar.lM=true->ar.κ=κ0
 W1:∀ r∈ar.fz,∃ row,m.r r=some row/\oq 3 row.ow=true
theorem A8:∀ {cs:List Cv},m.L3 cs=true->∀ r∈E8 cs,∀ row,m.r r=some row->eG row.ow=false
 | [],_,r,h=>by simp [E8] at h
 | x::cs,h,r,hr=>by
  simp only [Lk.L3] at h
  cases hx:m.Ni x with
  | false=>rw [hx] at h; cases h
  | true =>
   rw [hx] at h
   simp only [E8] at hr
   cases br:x.row with
   | none=>rw [br] at hr; exact A8 h r hr
   | some s =>
    rw [br] at hr
    rcases zI.1 hr with rfl | hr
    ·intro row hm
     simp only [Lk.Ni,br,hm] at hx
     revert hx; split<;>simp_all [eG]
    ·exact A8 h r hr
theorem tF:∀ (jj:List AV) (am:List Nat) (κ0:List Nat) (P:Nat) (ar:AR),m.args am jj κ0=some ar->KB m am P jj κ0 ar
 | [],am,κ0,P,ar,h=>by
  simp only [Lk.args,zA] at h; subst h
  exact ⟨rfl,fun _ _ h=>h,id,rfl,rfl,fun i v h=>by simp at h,fun _ r h=>by simp at h,fun _=>rfl,fun r h=>by simp at h⟩
 | v::l,am,κ0,P,ar,h=>by
  have cons:∀ (κ1:List Nat) (x:AC) (g io fz ni:List Nat) (b:Bool),sP x g io fz ni b (m.args (tl am) l κ1)=some ar->(∀ (i k:Nat),κ0[i]? =some k->κ1[i]? =some k)->(κ0.Nodup->κ1.Nodup) ->
    keys (match IB (hd am) with | true=>v8 (100000+P*64) (hd am) 0 (NP v) | false=>[])=g->keys (match Mh (hd am) with | true=>v8 (200000+P*64) 5 0 (NP v) | false=>[])=io ->
    Bt m κ1 (fun r k d=>(r,(k,d))∈(match IB (hd am) with | true=>v8 (100000+P*64) (hd am) 0 (NP v) | false=>[])++(match Mh (hd am) with | true=>v8 (200000+P*64) 5 0 (NP v) | false=>[])) (·∈fz) (·∈ni) (b=true) (hd am) P v x ->
    (b=true->(∀ r∈ni,∀ row,m.r r=some row->eG row.ow=false)/\κ1=κ0)->(∀ r∈fz,∃ row,m.r r=some row/\oq 3 row.ow=true)->KB m am P (v::l) κ0 ar:=by
   intro κ1 x g io fz ni b hc h1 h2 h3 h4 h5 h6 h7
   cases hq:m.args (tl am) l κ1 with
   | none=>simp [hq,sP] at hc
   | some q =>
    simp only [hq,sP,zA] at hc; subst hc
    have ih:=tF l (tl am) κ1 (P+1) q hq
    refine ⟨by simp [ih.len],fun i k hk=>ih.pre _ _ (h1 _ _ hk),fun hn=>ih.nd (h2 hn),?_,?_,fun i u hu=> ?_,fun hi r hr row hm=> ?_,fun hi=> ?_,fun r hr=>(zH.1 hr).elim (h7 r) (ih.W1 r)⟩
    ·simp only [u4,bC,h3,ih.gone]
    ·simp only [Gg,bC,h4,ih.io]
    ·cases i with
     | zero =>
      simp only [List.getElem?_cons_zero,zA] at hu; subst hu
      refine ⟨x,rfl,h5.mono ih.pre (fun r k d hg=> ?_) (fun r hr=>List.mem_append_left _ hr) (fun r hr=>List.mem_append_left _ hr) (fun h=>by cases b<;>simp_all)⟩
      simp only [u4,Gg,zH] at hg ⊢
      rcases hg with hg | hg
      ·exact .inl (.inl hg)
      ·exact .inr (.inl hg)
     | succ i =>
      obtain ⟨y,hy,hr⟩:=ih.arg i u (by simpa using hu)
      refine ⟨y,by simpa using hy,?_⟩
      rw [← zW,show P+(i+1)=P+1+i by omega]
      refine hr.mono (fun _ _ h=>h) (fun r k d hg=> ?_) (fun r hr=>List.mem_append_right _ hr) (fun r hr=>List.mem_append_right _ hr) (fun h=>by cases b<;>simp_all)
      simp only [u4,Gg,zH] at hg ⊢
      rcases hg with hg | hg
      ·exact .inl (.inr hg)
      ·exact .inr (.inr hg)
    ·have hb:b=true/\q.lM=true:=by cases b<;>simp_all
     rcases zH.1 hr with hr | hr
     ·exact (h6 hb.1).1 r hr row hm
     ·exact ih.Ym hb.2 r hr row hm
    ·have hb:b=true/\q.lM=true:=by cases b<;>simp_all
     exact (ih.X4 hb.2).trans (h6 hb.1).2
  have byv:∀ (cs:List Cv) (ys:List Ct) (x:AC),NP v=cs->cs.length<=63->m.iJ cs=some ys->(∀ ys',(ys'=ys/\W4 v x cs ys')\/(ys'=ys.map mU/\W4 v (H2 x) cs ys')\/True)->W4 v x cs ys->W4 v (H2 x) cs (ys.map mU)->Mh (hd am)=false ->
    m.O9 (hd am) cs x (m.args (tl am) l κ0)=some ar->KB m am P (v::l) κ0 ar:=by
   intro cs ys x Zs hlen NB _ Ij NC h9 h
   simp only [Lk.O9] at h
   revert h; split
   ·rename_i h0
    intro h
    refine cons κ0 x [] [] [] (E8 cs) (m.L3 cs) h (fun _ _ h=>h) id (by rw [h0]; rfl) (by rw [h0]; rfl) (.val Ij hlen NB (.inl ⟨h0,rfl,fun c hc r hr=> ?_,id⟩)) (fun h=>⟨A8 h,rfl⟩) (by simp)
    have:∀ (l:List Cv),c∈l->r∈E8 l:=by
     intro l
     induction l with
     | nil=>simp
     | cons a l ih =>
      intro hm
      simp only [E8]
      rcases zI.1 hm with rfl | hm
      ·rw [hr]; simp
      ·cases a.row with
       | some s=>exact zJ _ (ih hm)
       | none=>exact ih hm
    exact this cs hc
   ·rename_i h0
    intro h
    exact cons κ0 (H2 x) [] [] [] [] true h (fun _ _ h=>h) id (by rw [h0]; rfl) (by rw [h0]; rfl) (.val NC hlen NB (.inr (.inl ⟨h0,rfl⟩))) (fun _=>⟨by simp,rfl⟩) (by simp)
   ·rename_i h0 h7
    cases hk:sf (hd am) with
    | false=>simp [hk]
    | true =>
     cases ho:m.owned (hd am) cs with
     | none=>simp [hk,ho]
     | some g =>
      simp only [hk,ho]
      obtain ⟨o1,o2,o3⟩:=yx ho
      have ZF:hd am=3\/hd am=4\/hd am=5:=by revert hk; simp only [sf]; split<;>simp_all
      split
      ·rename_i h3
       intro h
       refine cons κ0 x [] [] g [] true h (fun _ _ h=>h) id (by rw [h3]; rfl) (by rw [h3]; rfl) (.val Ij hlen NB (.inr (.inr ⟨hk,rfl,fun c hc=>(o2 c hc).1,fun _ c hc r hr=>(o2 c hc).2 r hr,fun h=>absurd h3 h,fun _=>h3⟩))) (fun _=>⟨by simp,rfl⟩) (fun r hr=>by have:=o3 r hr; rwa [h3] at this)
      ·rename_i h3
       intro h
       have h45:IB (hd am)=true:=by rcases ZF with h | h | h<;>rw [h] at h3 ⊢<;>first | rfl | exact absurd rfl h3
       refine cons κ0 x g [] [] [] false h (fun _ _ h=>h) id (by simp only [h45,Zs]; exact o1 _ _ _) (by simp only [h9]; rfl) (.val Ij hlen NB (.inr (.inr ⟨hk,rfl,fun c hc=>(o2 c hc).1,fun h=>absurd h h3,fun _ j r hr=> ?_,fun h=>by cases h⟩))) (fun h=>by cases h) (by simp)
       simp only [h45,Zs,zH]
       left
       have:=Ky (100000+P*64) (hd am) cs 0 j r hr
       rwa [Nat.zero_add] at this
  have none1:∀ (x:Cv),(∀ r,x≠ .sw r)->keys (match IB (hd am) with | true=>v8 (100000+P*64) (hd am) 0 [x] | false=>[])=[]/\keys (match Mh (hd am) with | true=>v8 (200000+P*64) 5 0 [x] | false=>[])=[]:=by
   intro x hx
   have:∀ key d,v8 key d 0 [x]=[]:=by intro key d; cases x<;>first | rfl | exact absurd rfl (hx _)
   constructor<;>split<;>simp [this,keys]
  have cell:∀ x,v= .c x->(∀ k,x≠ .pv k 0)->(∀ f caps,x≠ .fn f caps)->KB m am P (v::l) κ0 ar:=by
   rintro x rfl hpv Qi
   have h:m.VV (hd am) x κ0 (m.args (tl am) l κ0)=some ar:=by
    revert h; cases x<;>first | exact absurd rfl (Qi _ _) | (simp only [Lk.args]; exact id) | skip
   simp only [Lk.VV,Lk.X9,Lk.X5] at h
   revert h; split
   ·rename_i h9
    split
    ·rename_i r
     cases hr:m.r r with
     | none=>simp
     | some row =>
      obtain ⟨τ,xs,ow⟩:=row
      cases h5:Nat.beq ow 5 with
      | false=>simp [h5]
      | true =>
       simp only [h5]
       intro h
       have:=aM h5; subst this
       refine cons κ0 _ [] [r] [] [] false h (fun _ _ h=>h) id (by rw [h9]; rfl) (by rw [h9]; rfl) (.io (by simp) h9 hr ?_) (fun h=>by cases h) (by simp)
       rw [h9]; simp [IB,Mh,v8,NP]
    ·simp
   ·rename_i h8
    split
    ·rename_i r v κ'
     cases hv:m.v v with
     | none=>simp
     | some cs =>
      cases hf:xI r 0 cs with
      | none=>simp [hf]
      | some c =>
       simp only [hf]
       intro h
       have:=(D8 hf).2
       refine cons _ _ [] [] [] [] false h (fun _ _ h=>h) id (by rw [h8]; rfl) (by rw [h8]; rfl) (.al (by simp) h8 (v:=v) rfl hv (by simpa using this)) (fun h=>by cases h) (by simp)
    ·simp
   ·rename_i h9 h8
    cases dk:m.ct x with
    | none=>simp
    | some y =>
     simp only
     intro h
     have Zp:Mh (hd am)=false:=P5 h9
     exact byv [x] [y] (.c y) rfl (by simp) (S5 dk) (fun _=> .inr (.inr trivial)) (.inr ⟨x,y,rfl,rfl,rfl,rfl⟩) (.inr ⟨x,mU y,rfl,rfl,rfl,rfl⟩) Zp h
  cases v with
  | c x =>
   cases x with
   | pv k c =>
    cases c with
    | zero =>
     simp only [Lk.args] at h
     cases ha:Nk κ0 k with
     | mk i κ1 =>
      simp only [ha] at h
      obtain ⟨a1,a2,a3⟩:=KO ha
      obtain ⟨n1,n2⟩:=none1 (.pv k 0) (by simp)
      exact cons κ1 _ [] [] [] [] false h a2 a3 n1 n2 (.ptr (by simp) a1) (fun h=>by cases h) (by simp)
    | succ c=>exact cell _ rfl (by simp) (by simp)
   | fn f caps =>
    simp only [Lk.args] at h
    cases ha:B0 κ0 caps with
    | mk ks κ1 =>
     simp only [ha] at h
     obtain ⟨a1,a2,a3,a4⟩:=Hg ha
     obtain ⟨n1,n2⟩:=none1 (.fn f caps) (by simp)
     exact cons κ1 _ [] [] [] [] false h a3 a4 n1 n2 (.fn (by simp) a1 a2) (fun h=>by cases h) (by simp)
   | _=>exact cell _ rfl (by simp) (by simp)
  | a cs =>
   simp only [Lk.args] at h
   cases hb:Nat.ble cs.length 63 with
   | false=>simp [hb] at h
   | true =>
    cases hc:m.iJ cs with
    | none=>simp [hb,hc] at h
    | some ys =>
     simp only [hb,hc] at h
     by_cases h9:hd am=9
     ·rw [h9] at h; simp [Lk.O9,sf] at h
     ·have Zp:Mh (hd am)=false:=P5 h9
      exact byv cs ys (.a ys) rfl (zQ hb) hc (fun _=> .inr (.inr trivial)) (.inl ⟨rfl,rfl⟩) (.inl ⟨rfl,by simp [H2,Jj]⟩) Zp h
  | _=>simp [Lk.args] at h
theorem eT {a b:List Nat}:jG a b=true↔∀ x∈a,x∉b:=by
 induction a with
 | nil=>simp [jG]
 | cons x a ih =>
  simp only [jG]
  cases h:cp x b with
  | true=>simp; exact fun h2=>absurd (ft.1 h) h2
  | false =>
   have:x∉b:=fun h2=>by rw [ft.2 h2] at h; cases h
   simp [ih,this]
def Hh (m:Lk) (B:Nat->Prop) (G:Nat->Nat->Nat->Prop) (key d:Nat) (c:Cv):Prop :=
 ((d=0\/d=1)/\∀ r,c.row=some r->B r)\/(sf d=true/\((∃ r row,c= .sw r/\m.r r=some row/\oq d row.ow=true/\zk r=true/\G r key d)\/∃ τ,c= .nl τ))
theorem zu (key:Nat):∀ {cs:List Cv} {ms:List Nat} {j:Nat} {k b:List Nat},m.kI ms cs=some (k,b)->keys (Ay key ms j cs)=k /\
  ∀ i c,cs[i]? =some c->Hh m (·∈b) (fun r x d=>(r,(x,d))∈Ay key ms j cs) (key+(j+i)) (md ms i) c
 | [],ms,j,k,b,h=>by simp only [Lk.kI,zA,zG] at h; obtain ⟨rfl,rfl⟩:=h; simp [Ay,keys]
 | c::cs,ms,j,k,b,h=>by
  simp only [Lk.kI] at h
  cases hr:m.kI (tl ms) cs with
  | none=>simp [hr] at h
  | some p =>
   obtain ⟨k0,b0⟩:=p
   simp only [hr] at h
   obtain ⟨i1,i2⟩:=zu key (j:=j+1) hr
   have rest:∀ (b':List Nat) (pre:List (Nat×(Nat×Nat))),(∀ x∈b0,x∈b')->Ay key ms j (c::cs)=pre++Ay key (tl ms) (j+1) cs ->
     Hh m (·∈b') (fun r x d=>(r,(x,d))∈Ay key ms j (c::cs)) (key+(j+0)) (md ms 0) c ->
     ∀ i c',(c::cs)[i]? =some c'->Hh m (·∈b') (fun r x d=>(r,(x,d))∈Ay key ms j (c::cs)) (key+(j+i)) (md ms i) c':=by
    intro b' pre hb hp h0 i c' hc
    cases i with
    | zero=>simp only [List.getElem?_cons_zero,zA] at hc; subst hc; exact h0
    | succ i =>
     have:=i2 i c' (by simpa using hc)
     rw [zW,show key+(j+1+i)=key+(j+(i+1)) by omega] at this
     rcases this with ⟨h1,h2⟩ | ⟨h1,h2⟩
     ·exact .inl ⟨h1,fun r hr=>hb _ (h2 r hr)⟩
     ·refine .inr ⟨h1,?_⟩
      rcases h2 with ⟨r,row,e1,e2,e3,e4,e5⟩ | h2
      ·exact .inl ⟨r,row,e1,e2,e3,e4,by rw [hp]; exact List.mem_append_right _ e5⟩
      ·exact .inr h2
   have ni:(hd ms=0\/hd ms=1)->(match c.row with | some r=>some (k0,r::b0) | none=>some (k0,b0))=some (k,b) ->
     keys (Ay key ms j (c::cs))=k/\∀ i c',(c::cs)[i]? =some c'->Hh m (·∈b) (fun r x d=>(r,(x,d))∈Ay key ms j (c::cs)) (key+(j+i)) (md ms i) c':=fun hm h=>by
    have hp:Ay key ms j (c::cs)=[]++Ay key (tl ms) (j+1) cs:=by rcases hm with hm | hm<;>simp only [Ay,hm]
    cases br:c.row with
    | none =>
     rw [br] at h; simp only [zA,zG] at h; obtain ⟨rfl,rfl⟩:=h
     exact ⟨by rw [hp]; exact i1,rest b0 [] (fun _ h=>h) hp (.inl ⟨hm,fun r hr=>by rw [br] at hr; cases hr⟩)⟩
    | some r =>
     rw [br] at h; simp only [zA,zG] at h; obtain ⟨rfl,rfl⟩:=h
     exact ⟨by rw [hp]; exact i1,rest (r::b0) [] (fun _ h=>zJ _ h) hp (.inl ⟨hm,fun s hs=>by rw [br] at hs; cases hs; simp⟩)⟩
   revert h; split
   ·rename_i h0; exact fun h=>ni (.inl h0) h
   ·rename_i h1; exact fun h=>ni (.inr h1) h
   ·rename_i h0 h1
    split
    ·rename_i r
     cases Lu:m.r r with
     | none=>simp
     | some row =>
      cases hk:sf (hd ms)&&zk r with
      | false=>simp [hk]
      | true =>
       cases hle:oq (hd ms) row.ow with
       | false=>simp [hk,hle]
       | true =>
        simp only [hk,hle,zA,zG]
        rintro ⟨rfl,rfl⟩
        simp only [zB] at hk
        have hp:Ay key ms j (.sw r::cs)=[(r,(key+j,hd ms))]++Ay key (tl ms) (j+1) cs:=by
         simp only [Ay]
        exact ⟨by rw [hp,bC,i1]; rfl,rest b0 _ (fun _ h=>h) hp (.inr ⟨hk.1,.inl ⟨r,row,rfl,Lu,hle,hk.2,by rw [hp,Nat.add_zero]; simp [w7]⟩⟩)⟩
    ·rename_i τ
     cases hk:sf (hd ms) with
     | false=>simp
     | true =>
      simp only [zA,zG]
      rintro ⟨rfl,rfl⟩
      have hp:Ay key ms j (.nl τ::cs)=[]++Ay key (tl ms) (j+1) cs:=by simp only [Ay]
      exact ⟨by rw [hp]; exact i1,rest b0 [] (fun _ h=>h) hp (.inr ⟨hk,.inr ⟨τ,rfl⟩⟩)⟩
    ·simp
theorem mJ:∀ {κ:List Nat} {vl:List (List Nat)} {k0:Nat} {k b:List Nat},m.eQ vl κ=some (k,b)->keys (oR m k0 vl κ)=k /\
  ∀ (i v:Nat),κ[i]? =some v->∃ cs,m.v v=some cs/\∀ j c,cs[j]? =some c->Hh m (·∈b) (fun r x d=>(r,(x,d))∈oR m k0 vl κ) (300000+(k0+i)*64+j) (md (LZ vl i) j) c
 | [],vl,k0,k,b,h=>by simp only [Lk.eQ,zA,zG] at h; obtain ⟨rfl,rfl⟩:=h; simp [oR,keys]
 | v::κ,vl,k0,k,b,h=>by
  simp only [Lk.eQ] at h
  cases hv:m.v v with
  | none=>simp [hv] at h
  | some cs =>
   cases h1:m.kI (ov vl) cs with
   | none=>simp [hv,h1] at h
   | some p =>
    cases h2:m.eQ (tl vl) κ with
    | none=>simp [hv,h1,h2] at h
    | some q =>
     obtain ⟨a1,b1⟩:=p
     obtain ⟨a2,b2⟩:=q
     simp only [hv,h1,h2,zA,zG] at h
     obtain ⟨rfl,rfl⟩:=h
     obtain ⟨i1,i2⟩:=zu (300000+k0*64) (j:=0) h1
     obtain ⟨j1,j2⟩:=mJ (k0:=k0+1) h2
     have hp:oR m k0 vl (v::κ)=Ay (300000+k0*64) (ov vl) 0 cs++oR m (k0+1) (tl vl) κ:=by simp only [oR,hv]
     refine ⟨by rw [hp,bC,i1,j1],fun i u hu=> ?_⟩
     have lift:∀ {B B':Nat->Prop} {G G':Nat->Nat->Nat->Prop} {key d:Nat} {c:Cv},(∀ r,B r->B' r)->(∀ r k d,G r k d->G' r k d)->Hh m B G key d c->Hh m B' G' key d c:=by
      intro B B' G G' key d c hB hG h
      rcases h with ⟨h1,h2⟩ | ⟨h1,⟨r,row,e1,e2,e3,e4,e5⟩ | h2⟩
      ·exact .inl ⟨h1,fun r hr=>hB _ (h2 r hr)⟩
      ·exact .inr ⟨h1,.inl ⟨r,row,e1,e2,e3,e4,hG _ _ _ e5⟩⟩
      ·exact .inr ⟨h1,.inr h2⟩
     cases i with
     | zero =>
      simp only [List.getElem?_cons_zero,zA] at hu; subst hu
      refine ⟨cs,hv,fun j c hc=> ?_⟩
      have:=i2 j c hc
      rw [Nat.zero_add] at this
      rw [Nat.add_zero,GI]
      exact lift (fun r hr=>List.mem_append_left _ hr) (fun r k d hg=>by rw [hp]; exact List.mem_append_left _ hg) this
     | succ i =>
      obtain ⟨cs',ZX,h3⟩:=j2 i u (by simpa using hu)
      refine ⟨cs',ZX,fun j c hc=> ?_⟩
      have:=h3 j c hc
      rw [Fi,show k0+1+i=k0+(i+1) by omega] at this
      exact lift (fun r hr=>List.mem_append_right _ hr) (fun r k d hg=>by rw [hp]; exact List.mem_append_right _ hg) this
theorem w9:∀ {κ:List Nat} {vl:List (List Nat)} {cP:List (List Ct)},m.uT vl κ=some cP->cP.length=κ.length /\
  ∀ (i v:Nat),κ[i]? =some v->∃ cs l,m.v v=some cs/\m.iJ cs=some l/\cP[i]? =some l/\cs.length<=63
 | [],vl,cP,h=>by simp only [Lk.uT,zA] at h; subst h; simp
 | v::κ,vl,cP,h=>by
  simp only [Lk.uT] at h
  cases hv:m.v v with
  | none=>simp [hv] at h
  | some cs =>
   cases hb:Nat.ble cs.length 63 with
   | false=>simp [hv,hb] at h
   | true =>
    cases hc:m.iJ cs with
    | none=>simp [hv,hb,hc] at h
    | some l =>
     cases hr:m.uT (tl vl) κ with
     | none=>simp [hv,hb,hc,hr] at h
     | some r =>
      simp only [hv,hb,hc,hr,zA] at h; subst h
      obtain ⟨i1,i2⟩:=w9 hr
      refine ⟨by simp [i1],fun i u hu=> ?_⟩
      cases i with
      | zero=>simp only [List.getElem?_cons_zero,zA] at hu; subst hu; exact ⟨cs,l,hv,hc,rfl,zQ hb⟩
      | succ i =>
       obtain ⟨cs',l',h1,h2,h3,h4⟩:=i2 i u (by simpa using hu)
       exact ⟨cs',l',h1,h2,by simpa using h3,h4⟩
theorem kE:∀ {cs:List Cv} {ys:List Ct},m.iJ cs=some ys->ys.length=cs.length/\∀ (i:Nat) (y:Ct),ys[i]? =some y->∃ c,cs[i]? =some c/\m.ct c=some y
 | [],ys,h=>by simp only [Lk.iJ,zA] at h; subst h; simp
 | c::cs,ys,h=>by
  simp only [Lk.iJ] at h
  cases h1:m.ct c with
  | none=>simp [h1] at h
  | some y =>
   cases h2:m.iJ cs with
   | none=>simp [h1,h2] at h
   | some r =>
    simp only [h1,h2,zA] at h; subst h
    obtain ⟨i1,i2⟩:=kE h2
    refine ⟨by simp [i1],fun i u hu=> ?_⟩
    cases i with
    | zero=>simp only [List.getElem?_cons_zero,zA] at hu; subst hu; exact ⟨c,rfl,h1⟩
    | succ i=>simpa using i2 i u (by simpa using hu)
structure bP where
 m:Lk
 g:uw
 jj:List AV
 ar:AR
 cP:List (List Ct)
 ow:List Nat
 b:List Nat
structure bP.Ok (c:bP):Prop where
 args:c.m.args c.g.am c.jj []=some c.ar
 uT:c.m.uT c.g.vl c.ar.κ=some c.cP
 hand:c.m.te c.g c.ar=some (c.ow,c.b)
 len:c.jj.length<=1000
 abu:c.ar.κ.length<=1000
def bP.H (c:bP):List (Nat×(Nat×Nat)):=u4 c.g.am 0 c.jj++(oR c.m 0 c.g.vl c.ar.κ++Gg c.g.am 0 c.jj)
def bP.ni (c:bP) (r:Nat):Prop:=r∈c.ar.ni\/r∈c.b
open Classical in
noncomputable def bP.rb (c:bP):Rb where
 r r:=match lk c.H r with
  | some p=>some p
  | none=>if r∈c.ar.fz then some (0,3) else if c.ni r/\∃ row,c.m.r r=some row/\eG row.ow=true then some (0,1) else none
 d:=some .x
 v v:=match nz v 0 c.ar.κ with | some k=>some (.v k) | none=>some .x
def cellAt (v:Value) (j:Nat):Value:=v.cells.toList.getD j undef
def bP.rv (c:bP) (γ:Gh) (w:World) (args:List Value) (key:Nat):Value :=
 if key<200000 then cellAt (args.getD ((key-100000)/64) undef) ((key-100000) % 64) else if key<300000 then args.getD ((key-200000)/64) undef
 else match w.heap[γ.vb (c.ar.κ.getD ((key-300000)/64) 0)]? with
  | some (.cells cur _ _)=>cur.toList.getD ((key-300000) % 64) undef
  | _=>undef
noncomputable def bP.O (c:bP) (γ:Gh):OM:=fun g=>(γ.O g).bind c.rb.f
open Classical in
noncomputable def bP.cv (c:bP) (X:Ctx) (γ:Gh) (w:World) (args:List Value) (key:Nat):List Value :=
 match (entry c.g c.ar.cn c.cP).lk.r key with
 | some row=>if h:∃ cs,cX X (c.O γ) w key row (c.rv γ w args key) cs then Classical.choose h else []
 | none=>[]
noncomputable def bP.gh (c:bP) (X:Ctx) (γ:Gh) (w:World) (args:List Value):Gh:=⟨c.O γ,c.rv γ w args,c.cv X γ w args,fun k=>γ.vb (c.ar.κ.getD k 0)⟩
structure bP.Fact (c:bP):Prop where
 nd:(keys c.H).Nodup
 hk:∀ r k d,(r,(k,d))∈c.H->c.rb.r r=some (k,d)
 fz:∀ r,r∈c.ar.fz->c.rb.r r=some (0,3)
 ni:∀ r,c.ni r->lk c.H r=none
 fzH:∀ r,r∈c.ar.fz->lk c.H r=none
 kH:keys c.H=c.ar.gone++(c.ow++c.ar.io)
theorem bP.Ok.fact {c:bP} (h:c.Ok):c.Fact:=by
 have ha:=tF c.jj c.g.am [] 0 c.ar h.args
 have hh:=h.hand
 simp only [Lk.te] at hh
 cases ho:c.m.eQ c.g.vl c.ar.κ with
 | none=>simp [ho] at hh
 | some p =>
  obtain ⟨ow,b⟩:=p
  simp only [ho] at hh
  have wq:=(mJ (k0:=0) ho).1
  revert hh; split
  ·rename_i n1 n2 n3 n4
   intro hh; simp only [zA,zG] at hh
   obtain ⟨e1,e2⟩:=hh
   rw [e1] at n1 n2 n3 n4 wq
   rw [e2] at n4
   have kH:keys c.H=c.ar.gone++(c.ow++c.ar.io):=by
    simp only [bP.H,bC,ha.gone,ha.io,wq]
   have nd:(keys c.H).Nodup:=by rw [kH]; exact gO.1 n1
   have no:∀ r,r∉c.ar.gone++(c.ow++c.ar.io)->lk c.H r=none:=fun r hr=>cL.2 (by rw [kH]; exact hr)
   have fzH:∀ r,r∈c.ar.fz->lk c.H r=none:=fun r hr=>no r (eT.1 n2 r hr)
   refine ⟨nd,fun r k d hm=> ?_,fun r hr=> ?_,fun r hr=> ?_,fzH,kH⟩
   ·simp only [bP.rb,gA nd hm]
   ·simp only [bP.rb,fzH r hr,if_pos hr]
   ·rcases hr with hr | hr
    ·exact no r (eT.1 n3 r hr)
    ·exact no r (eT.1 n4 r hr)
  ·intro hh; cases hh
theorem x9 {r ow:Nat} {o:Option Ow} (h:R9 r ow o):o=none\/o=some .fz\/(o=some (.r r)/\eG ow=true)\/∃ e c,o=some (.n r e c)/\ow=5:=by
 rcases h with h | ⟨e,c,h⟩
 ·revert h; simp only [dU]; split
  ·rename_i ho; exact fun h=> .inr (.inr (.inl ⟨h,ho⟩))
  ·split
   ·exact fun h=> .inr (.inl h)
   ·exact fun h=>h.elim .inl (fun h=> .inr (.inl h))
 ·revert h; simp only [dY]; split
  ·exact fun h=> .inr (.inr (.inr ⟨e,c,h,rfl⟩))
  ·exact fun h=> .inr (.inl h)
  ·exact fun h=> .inr (.inl h)
  ·exact fun h=>h.elim .inl (fun h=> .inr (.inl h))
theorem bP.Fact.Vv {c:bP} (hf:c.Fact) {r:Nat} (hb:c.ni r) {row:Row} (hr:c.m.r r=some row) {o:Option Ow} (h:R9 r row.ow o):In .ni (o.bind c.rb.f):=by
 have key:eG row.ow=true->c.rb.r r=some (0,3)\/c.rb.r r=some (0,1):=by
  intro ho
  by_cases hz:r∈c.ar.fz
  ·exact .inl (hf.fz r hz)
  ·right; simp only [bP.rb,hf.ni r hb,if_neg hz,if_pos (⟨hb,row,hr,ho⟩:c.ni r/\∃ row,c.m.r r=some row/\eG row.ow=true)]
 rcases x9 h with rfl | rfl | ⟨rfl,ho⟩ | ⟨e,c',rfl,h5⟩
 ·exact .inl rfl
 ·exact .inr rfl
 ·show In .ni (c.rb.f (.r r))
  rcases key ho with h1 | h1<;>simp only [Rb.f,h1]
  ·exact .inr rfl
  ·exact .inl rfl
 ·show In .ni (c.rb.f (.n r e c'))
  rcases key (by rw [h5]; rfl) with h1 | h1<;>simp only [Rb.f,h1]
  ·exact .inr rfl
  ·exact .inl rfl
theorem cX.nil (X:Ctx) (O:OM) (w:World) (k:Nat) (τ:Ty) (d:Nat):cX X O w k ⟨τ,[],d⟩ (.slice none 0 0) []:=by
 refine ⟨?_,fun e c ct he=>by simp at he⟩
 show Sl X O w (dU k d) τ _ _ _
 cases dU k d with
 | own t=>exact ⟨World.ownsRow_nil w 0 _ _,by simp [Value.ownBlock]⟩
 | _=>exact ⟨by simp,.inl ⟨rfl,rfl⟩⟩
theorem Kq {c:Cv} {τ:Ty} {xs:List (El τ)} (h:m.ct c=some (.l τ xs)):(m.vw c).ct=some (.l τ xs):=by
 cases c<;>first | exact h | (simp [Lk.ct] at h; done)
theorem bP.Fact.cell {c:bP} (hf:c.Fact) (hm:Le c.m S.lk) (hR:Rel X S.lk γ w) {x:Cv} {u:Value} (hx:bu S.lk γ x u) {τ:Ty} {xs:List (El τ)} (dk:c.m.ct x=some (.l τ xs)) {key d:Nat}
  (h:(d=1/\∀ r,x.row=some r->c.ni r)\/(sf d=true/\OC c.m d x/\∀ r,x= .sw r->(r,(key,d))∈c.H\/(d=3/\r∈c.ar.fz))) :
  ∃ cs,cX X (c.O γ) w key ⟨τ,xs,d⟩ u cs:=by
 rcases h with ⟨rfl,hb⟩ | ⟨hd,ho,hh⟩
 ·obtain ⟨cs,hv⟩:=Fk (A:=fun g=>In .ni (c.O γ g)) hm hR hx (fun r row g hr NW hi=>hf.Vv (hb r NW) hr hi) (Kq dk)
  exact ⟨cs,hv.Js⟩
 ·rcases ho with ⟨r,row,rfl,hr,hle⟩ | ⟨σ,rfl⟩ | ⟨b,rfl⟩ | ⟨k,n,rfl⟩ | ⟨s,rfl⟩
  ·simp only [Lk.ct,Lk.vw,hr,Vw.ct,zA,Ct.l.injEq] at dk
   obtain ⟨rfl,dk⟩:=dk; cases dk
   obtain ⟨_,rfl⟩:=hx
   rcases hh r rfl with h1 | ⟨rfl,h1⟩
   ·exact ⟨γ.cv r,(hR.rs r row (hm.r r row hr)).relabel (a:=c.rb) (fun _=>hf.hk r key d h1) hle (fun g o hg _=>⟨hg,rfl⟩)⟩
   ·have:=(hR.rs r row (hm.r r row hr)).relabel (a:=c.rb) (O':=c.O γ) (fun _=>hf.fz r h1) hle (fun g o hg _=>⟨hg,rfl⟩)
    exact ⟨γ.cv r,this.top,this.rU⟩
  ·simp only [Lk.ct,Lk.vw,Vw.ct,zA,Ct.l.injEq] at dk
   obtain ⟨rfl,dk⟩:=dk; cases dk
   have hx:u= .slice none 0 0:=hx
   subst hx
   exact ⟨[],cX.nil _ _ _ _ _ _⟩
  ·simp [Lk.ct] at dk
  ·simp [Lk.ct] at dk
  ·simp [Lk.ct] at dk
theorem lU.vH {m:Lk} {γ:Gh}:∀ {l:List AV} {u:List Value},l.length=u.length->(∀ (i:Nat) (x:AV) (v:Value),l[i]? =some x->u[i]? =some v->bq m γ x v)->lU m γ l u
 | [],[],_,_=> .nil
 | [],_::_,h,_=>by simp at h
 | _::_,[],h,_=>by simp at h
 | x::l,v::u,hl,h=> .cons (h 0 x v rfl rfl) (lU.vH (by simpa using hl) fun i x v hx hv=>h (i+1) x v hx hv)
theorem lU.get {m:Lk} {γ:Gh} {l:List AV} {u:List Value} (h:lU m γ l u):l.length=u.length/\∀ (i:Nat) (x:AV),l[i]? =some x->∃ v,u[i]? =some v/\bq m γ x v:=by
 induction h with
 | nil=>simp
 | cons hx _ ih =>
  refine ⟨by simp [ih.1],fun i y hy=> ?_⟩
  cases i with
  | zero=>simp at hy; subst hy; exact ⟨_,rfl,hx⟩
  | succ i=>simpa using ih.2 i y (by simpa using hy)
theorem AB {c:Cv} {y:Ct} (h:m.ct c=some y) (hu:y≠ .u) (hl:∀ τ xs,y≠ .l τ xs):bu M γ c=fun v=>v=gJ y:=by
 cases c with
 | un=>simp [Lk.ct] at h; exact absurd h.symm hu
 | b x=>simp [Lk.ct] at h; subst h; rfl
 | i k n=>simp [Lk.ct] at h; subst h; rfl
 | s x=>simp [Lk.ct] at h; subst h; rfl
 | _ =>
  exfalso; simp only [Lk.ct] at h
  revert h; cases m.vw _<;>simp [Vw.ct]
  all_goals (intro h; exact hl _ _ h.symm)
theorem zt {e0:Lk} {γ0:Gh} (hR:Rel X M γ w) {c:Cv} {v:Value} (hx:bu M γ c v) {y y':Ct} (h:m.ct c=some y) (hy:y'=y\/y'=mU y) {key:Nat}
  (hl:∀ τ xs,y'= .l τ xs->(∃ row,e0.r key=some row)/\v=γ0.rv key):bu e0 γ0 (uB key y') v:=by
 cases y' with
 | u=>exact hx.one hR
 | l τ xs=>exact hl τ xs rfl
 | b x =>
  have:y= .b x:=by rcases hy with h | h; exact h.symm; cases y<;>simp_all [mU]
  subst this
  have:=AB (M:=M) (γ:=γ) h (by simp) (by simp)
  rw [this] at hx; exact hx
 | i k n =>
  have:y= .i k n:=by rcases hy with h | h; exact h.symm; cases y<;>simp_all [mU]
  subst this
  have:=AB (M:=M) (γ:=γ) h (by simp) (by simp)
  rw [this] at hx; exact hx
 | s x =>
  have:y= .s x:=by rcases hy with h | h; exact h.symm; cases y<;>simp_all [mU]
  subst this
  have:=AB (M:=M) (γ:=γ) h (by simp) (by simp)
  rw [this] at hx; exact hx
theorem ET (hR:Rel X M γ w) {v:AV} {x:AC} {cs:List Cv} {ys:List Ct} (h:W4 v x cs ys) {u:Value} (hv:bq M γ v u):(v= .c .un/\cs=[.un])\/cj M γ cs u.cells.toList:=by
 rcases h with ⟨rfl,rfl⟩ | ⟨c,y,rfl,rfl,rfl,rfl⟩
 ·exact .inr (qq hR hv rfl)
 ·by_cases hu:c= .un
  ·subst hu; exact .inl ⟨rfl,rfl⟩
  ·right; exact qq hR hv (by cases c<;>first | rfl | exact absurd rfl hu)
theorem bP.FG (c:bP) (γ:Gh) (w:World) (args:List Value) (P j:Nat) (hj:j<64) (hP:P<=1000):c.rv γ w args (100000+P*64+j)=cellAt (args.getD P undef) j:=by
 have h1:100000+P*64+j<200000:=by omega
 have h2:(100000+P*64+j-100000)/64=P:=by omega
 have h3:(100000+P*64+j-100000) % 64=j:=by omega
 simp only [bP.rv,if_pos h1,h2,h3]
theorem bP.PX (c:bP) (γ:Gh) (w:World) (args:List Value) (P:Nat) (hP:P<=1000):c.rv γ w args (200000+P*64)=args.getD P undef:=by
 have h1:¬ 200000+P*64<200000:=by omega
 have h2:200000+P*64<300000:=by omega
 have h3:(200000+P*64-200000)/64=P:=by omega
 simp only [bP.rv,if_neg h1,if_pos h2,h3]
theorem bP.EK (c:bP) (γ:Gh) (w:World) (args:List Value) (k j v:Nat) (hj:j<64) (hk:c.ar.κ[k]? =some v) {cur:Array Value} {e:TypeId} {fz:Nat×Nat} (hc:w.heap[γ.vb v]? =some (.cells cur e fz)) :
  c.rv γ w args (300000+k*64+j)=cur.toList.getD j undef:=by
 have h1:¬ 300000+k*64+j<200000:=by omega
 have h2:¬ 300000+k*64+j<300000:=by omega
 have h3:(300000+k*64+j-300000)/64=k:=by omega
 have h4:(300000+k*64+j-300000) % 64=j:=by omega
 have h5:c.ar.κ.getD k 0=v:=by simp [List.getD,hk]
 simp only [bP.rv,if_neg h1,if_neg h2,h3,h4,h5,hc]
structure bP.Ip (c:bP) (X:Ctx) (S:St) (γ:Gh) (w:World) (args:List Value):Prop where
 ok:c.Ok
 le:Le c.m S.lk
 rel:Rel X S.lk γ w
 top:∀ g,w.heap.size<=g->γ.O g=none
 args:lU S.lk γ c.jj args
theorem bP.Ip.arg {c:bP} {args:List Value} (h:c.Ip X S γ w args) {P:Nat} {x:AC} (hx:c.ar.cn[P]? =some x):∃ v u,c.jj[P]? =some v/\args[P]? =some u/\args.getD P undef=u/\bq S.lk γ v u/\P<=1000 /\
  Bt c.m c.ar.κ (fun r k d=>(r,(k,d))∈c.H) (·∈c.ar.fz) (·∈c.ar.ni) (c.ar.lM=true) (md c.g.am P) P v x:=by
 have ha:=tF c.jj c.g.am [] 0 c.ar h.ok.args
 have hP:P<c.jj.length:=by have:=(zU.1 hx).1; rw [ha.len] at this; exact this
 have hv:c.jj[P]? =some c.jj[P]:=List.getElem?_eq_getElem hP
 obtain ⟨u,hu,hr⟩:=h.args.get.2 P _ hv
 obtain ⟨x',Al,hA⟩:=ha.arg P _ hv
 rw [hx] at Al; cases Al
 refine ⟨_,u,hv,hu,by simp [List.getD,hu],hr,by have:=h.ok.len; omega,?_⟩
 rw [Nat.zero_add] at hA
 refine hA.mono (fun _ _ h=>h) (fun r k d hg=> ?_) (fun _ h=>h) (fun _ h=>h) id
 simp only [bP.H,zH] at hg ⊢
 rcases hg with hg | hg
 ·exact .inl hg
 ·exact .inr (.inr hg)
theorem mA {d:Nat} (h:sf d=true):d=3\/d=4\/d=5:=by revert h; simp only [sf]; split<;>simp_all
theorem P9 {d:Nat} (h:sf d=true):kd 0 d=d:=by rcases mA h with rfl | rfl | rfl<;>rfl
theorem bP.Ip.row {c:bP} {args:List Value} (h:c.Ip X S γ w args) {key:Nat} {row:Row} (hr:(entry c.g c.ar.cn c.cP).lk.r key=some row) :
  ∃ cs,cX X (c.O γ) w key row (c.rv γ w args key) cs:=by
 have hf:=h.ok.fact
 rcases Kv hr with ⟨P,x,hx,hA⟩ | ⟨k,l,j,τ,xs,hl,hj,rfl,rfl⟩
 ·obtain ⟨v,u,hv,hu,Re,wy,hP,hA2⟩:=h.arg hx
  rcases hA with ⟨j,τ,xs,hj,rfl,rfl⟩ | ⟨τ,xs,rfl,rfl,rfl⟩
  ·cases hA2 with
   | val h1 h2 h3 h4 =>
    rename_i cs ys ys'
    have QI:acl x=ys':=by rcases h1 with ⟨_,rfl⟩ | ⟨_,_,_,rfl,_,rfl⟩<;>rfl
    rw [QI] at hj
    rcases h4 with ⟨hd,rfl,hb,_⟩ | ⟨hd,rfl⟩ | ⟨hd,rfl,ho,hz,hg,_⟩
    ·obtain ⟨cc,hc,dk⟩:=(kE h3).2 j _ hj
     rcases ET h.rel h1 wy with ⟨rfl,rfl⟩ | CO
     ·cases j<;>simp at hc; subst hc; simp [Lk.ct] at dk
     ·obtain ⟨uv,Ih,AG⟩:=CO.get hc
      have N1:j<64:=by have:=(zU.1 hc).1; omega
      rw [c.FG γ w args P j N1 hP,Re,show cellAt u j=uv by simp [cellAt,List.getD,Ih]]
      rw [hd]
      exact hf.cell h.le h.rel AG dk (.inl ⟨rfl,fun r hr=> .inl (hb cc (List.mem_of_getElem? hc) r hr)⟩)
    ·rw [List.getElem?_map] at hj
     cases hy:ys[j]? with
     | none=>rw [hy] at hj; cases hj
     | some y=>rw [hy] at hj; cases y<;>simp [mU] at hj
    ·obtain ⟨cc,hc,dk⟩:=(kE h3).2 j _ hj
     rcases ET h.rel h1 wy with ⟨rfl,rfl⟩ | CO
     ·cases j<;>simp at hc; subst hc; simp [Lk.ct] at dk
     ·obtain ⟨uv,Ih,AG⟩:=CO.get hc
      have N1:j<64:=by have:=(zU.1 hc).1; omega
      rw [c.FG γ w args P j N1 hP,Re,show cellAt u j=uv by simp [cellAt,List.getD,Ih],P9 hd]
      refine hf.cell h.le h.rel AG dk (.inr ⟨hd,ho cc (List.mem_of_getElem? hc),fun r e=> ?_⟩)
      by_cases Ly:md c.g.am P=3
      ·exact .inr ⟨Ly,hz Ly cc (List.mem_of_getElem? hc) r e⟩
      ·exact .inl (hg Ly j r (by rw [hc,e]))
   | io h1 h2 h3 h4=>simp [acl] at hj
   | _=>simp [acl] at hj
  ·cases hA2 with
   | io h0 h1 h2 h3 =>
    rename_i r
    rw [c.PX γ w args P hP,Re]
    have AG:bu S.lk γ (.sw r) u:=wy
    exact hf.cell h.le h.rel AG (by simp [Lk.ct,Lk.vw,h2,Vw.ct]) (.inr ⟨rfl,.inl ⟨r,_,rfl,h2,rfl⟩,fun s e=>by cases e; exact .inl h3⟩)
   | val h1=>rcases h1 with ⟨_,h⟩ | ⟨_,_,_,h,_⟩<;>cases h
 ·have VX:=w9 h.ok.uT
  have hk:k<c.ar.κ.length:=by have:=(zU.1 hl).1; rw [VX.1] at this; exact this
  have Iu:c.ar.κ[k]? =some c.ar.κ[k]:=List.getElem?_eq_getElem hk
  obtain ⟨cs,l',je,dk,xX,Wv⟩:=VX.2 k _ Iu
  rw [hl] at xX; cases xX
  obtain ⟨cc,hc,Dx⟩:=(kE dk).2 j _ hj
  obtain ⟨_,cur,e,ng,CO⟩:=h.rel.vs _ cs (h.le.v _ _ je)
  obtain ⟨uv,Ih,AG⟩:=CO.get hc
  have N1:j<64:=by have:=(zU.1 hc).1; omega
  rw [c.EK γ w args k j _ N1 Iu ng,show cur.toList.getD j undef=uv by simp only [List.getD,Ih]; rfl]
  have hh:=h.ok.hand
  simp only [Lk.te] at hh
  cases ho:c.m.eQ c.g.vl c.ar.κ with
  | none=>simp [ho] at hh
  | some p =>
   obtain ⟨ow,b⟩:=p
   have hb:b=c.b:=by
    simp only [ho] at hh
    revert hh; split
    ·intro hh; simp only [zA,zG] at hh; exact hh.2
    ·intro hh; cases hh
   obtain ⟨cs2,Qs,Xf⟩:=(mJ (k0:=0) ho).2 k _ Iu
   rw [je] at Qs; cases Qs
   have Xf:=Xf j cc hc
   rw [Nat.zero_add] at Xf
   have hH:∀ r x d,(r,(x,d))∈oR c.m 0 c.g.vl c.ar.κ->(r,(x,d))∈c.H:=fun r x d hm=>List.mem_append_right _ (List.mem_append_left _ hm)
   rcases Xf with ⟨hd,Rp⟩ | ⟨hd,⟨r,row,rfl,e2,e3,e4,e5⟩ | ⟨σ,rfl⟩⟩
   ·have:kd 0 (md (LZ c.g.vl k) j)=1:=by rcases hd with h | h<;>rw [h]<;>rfl
    rw [this]
    exact hf.cell h.le h.rel AG Dx (.inl ⟨rfl,fun r hr=> .inr (hb▸Rp r hr)⟩)
   ·rw [P9 hd]
    exact hf.cell h.le h.rel AG Dx (.inr ⟨hd,.inl ⟨r,row,rfl,e2,e3⟩,fun s e=>by cases e; exact .inl (hH _ _ _ e5)⟩)
   ·rw [P9 hd]
    exact hf.cell h.le h.rel AG Dx (.inr ⟨hd,.inr (.inl ⟨σ,rfl⟩),fun s e=>by cases e⟩)
theorem bP.Ip.pre {c:bP} {args:List Value} (h:c.Ip X S γ w args):TR X c.g c.ar.cn c.cP (c.gh X γ w args) w args:=by
 have hf:=h.ok.fact
 have ha:=tF c.jj c.g.am [] 0 c.ar h.ok.args
 have VX:=w9 h.ok.uT
 refine ⟨⟨fun k cs hk=> ?_,fun key row hr=> ?_⟩,fun b hb=> ?_,lU.vH ?_ fun P x u hx hu=> ?_⟩
 ·rw [Ld] at hk
  cases hl:c.cP[k]? with
  | none=>rw [hl] at hk; cases hk
  | some l =>
   rw [hl] at hk; simp only [Option.map_some,zA] at hk; subst hk
   have hkl:k<c.ar.κ.length:=by have:=(zU.1 hl).1; rw [VX.1] at this; exact this
   have Iu:c.ar.κ[k]? =some c.ar.κ[k]:=List.getElem?_eq_getElem hkl
   obtain ⟨cs,l',je,dk,xX,Wv⟩:=VX.2 k _ Iu
   rw [hl] at xX; cases xX
   obtain ⟨hO,cur,e,ng,CO⟩:=h.rel.vs _ cs (h.le.v _ _ je)
   have Gp:(c.gh X γ w args).vb k=γ.vb c.ar.κ[k]:=by show γ.vb (c.ar.κ.getD k 0)=_; simp [List.getD,Iu]
   rw [Gp]
   have adu:nz c.ar.κ[k] 0 c.ar.κ=some k:=by
    cases hi:nz c.ar.κ[k] 0 c.ar.κ with
    | none=>exact absurd (List.getElem_mem hkl) (tY hi)
    | some k' =>
     have h1:=(sR hi).2
     have Ii:c.ar.κ.Nodup:=ha.nd (by simp)
     have h2:k'-0<c.ar.κ.length:=(zU.1 h1).1
     have:=(List.getElem?_inj h2 Ii).1 (h1.trans Iu.symm)
     rw [← this]; simp
   refine ⟨?_,cur,e,ng,?_⟩
   ·show (γ.O (γ.vb c.ar.κ[k])).bind c.rb.f=some (.v k)
    rw [hO]
    show c.rb.f (.v c.ar.κ[k])=_
    simp only [Rb.f,bP.rb,adu]
   ·have hlen:=(kE dk).1
    have ZS:=CO.length
    apply cj.vH
    ·rw [s6,hlen]; exact ZS
    ·intro j x v hx hv
     rw [Bv] at hx
     cases hy:l[j]? with
     | none=>rw [hy] at hx; cases hx
     | some y =>
      rw [hy] at hx; simp only [Option.map_some,zA,Nat.add_zero] at hx; subst hx
      obtain ⟨cc,hc,Dx⟩:=(kE dk).2 j _ hy
      obtain ⟨uv,Ih,AG⟩:=CO.get hc
      rw [hv] at Ih; cases Ih
      have N1:j<64:=by have:=(zU.1 hc).1; omega
      refine zt h.rel AG Dx (.inl rfl) fun τ xs e1=>⟨tX (.inr ⟨k,l,j,τ,xs,hl,by rw [hy,e1],rfl,rfl⟩),?_⟩
      show v=c.rv γ w args (300000+k*64+j)
      rw [c.EK γ w args k j _ N1 Iu ng]; simp only [List.getD,hv]; rfl
 ·have hex:=h.row hr
  show cX X (c.O γ) w key row (c.rv γ w args key) (c.cv X γ w args key)
  have:c.cv X γ w args key=Classical.choose hex:=by simp only [bP.cv,hr,dif_pos hex]
  rw [this]; exact Classical.choose_spec hex
 ·show (γ.O b).bind c.rb.f=none
  rw [h.top b hb]; rfl
 ·have Xh:(se c.g.am 0 c.ar.cn).1.length=c.ar.cn.length:=by
   have h1:=xc c.ar.cn c.g.am 0
   apply Nat.le_antisymm
   ·apply Nat.not_lt.1; intro fW
    have:=h1 c.ar.cn.length
    rw [List.getElem?_eq_getElem fW] at this; simp at this
   ·apply Nat.not_lt.1; intro fW
    have:=h1 (se c.g.am 0 c.ar.cn).1.length
    rw [List.getElem?_eq_none (Nat.le_refl _),List.getElem?_eq_getElem fW] at this; simp at this
  rw [Xh,ha.len]; exact h.args.get.1
 ·rw [xc] at hx
  cases hy:c.ar.cn[P]? with
  | none=>rw [hy] at hx; cases hx
  | some y =>
   rw [hy] at hx; simp only [Option.map_some,zA,Nat.zero_add] at hx; subst hx
   obtain ⟨v,u',hv,pg,Re,wy,hP,hA⟩:=h.arg hy
   rw [hu] at pg; cases pg
   have DB:∀ i k,c.ar.κ[i]? =some k->(∃ cs,(entry c.g c.ar.cn c.cP).lk.v i=some cs)/\(c.gh X γ w args).vb i=γ.vb k:=by
    intro i k hk
    obtain ⟨cs,l,je,dk,hl,_⟩:=VX.2 i k hk
    exact ⟨⟨_,by rw [Ld,hl]; rfl⟩,by show γ.vb (c.ar.κ.getD i 0)=_; simp [List.getD,hk]⟩
   have hA0:=hA
   cases hA with
   | ptr h0 h1 =>
    rename_i k i
    obtain ⟨h2,h3⟩:=DB i k h1
    obtain ⟨_,hpv⟩:=wy
    exact ⟨h2,by rw [h3]; exact hpv⟩
   | fn h0 h1 h2 =>
    rename_i f caps ks
    obtain ⟨_,Qi⟩:=wy
    refine ⟨fun i hi=> ?_,?_⟩
    ·obtain ⟨n,hn⟩:=List.mem_iff_getElem?.1 hi
     obtain ⟨vv,_,h4⟩:=h2 n i hn
     exact (DB i vv h4).1
    ·rw [Qi]; congr 2
     apply List.ext_getElem?
     intro n
     simp only [List.getElem?_map]
     cases hn:ks[n]? with
     | none =>
      have:caps[n]? =none:=by
       apply List.getElem?_eq_none
       rw [← h1]
       exact Nat.not_lt.1 fun fW=>by rw [List.getElem?_eq_getElem fW] at hn; cases hn
      rw [this]; rfl
     | some i =>
      obtain ⟨vv,h3,h4⟩:=h2 n i hn
      rw [h3]
      simp only [Option.map_some]
      rw [(DB i vv h4).2]
   | io h0 h1 h2 h3 =>
    rename_i r τ xs
    show bu _ _ (.sw (200000+P*64)) u
    refine ⟨tX (.inl ⟨P,_,hy,.inr ⟨τ,xs,rfl,rfl,rfl⟩⟩),?_⟩
    show u=c.rv γ w args (200000+P*64)
    rw [c.PX γ w args P hP,Re]
   | al h0 h8 h1 h2 h3 =>
    rename_i r vv cc cs
    show bu _ _ (.sw (300000+0*64+cc)) u
    obtain ⟨cs',l,je,dk,hl,Wv⟩:=VX.2 0 vv h1
    rw [h2] at je; cases je
    have NU:=(kE dk).1
    have ags:cc<cs.length:=(zU.1 h3).1
    have Nv:l[cc]? =some (l[cc]'(by omega)):=List.getElem?_eq_getElem (by omega)
    obtain ⟨c3,iZ,Tk⟩:=(kE dk).2 cc _ Nv
    rw [h3] at iZ; cases iZ
    obtain ⟨_,cur,e,ng,CO⟩:=h.rel.vs _ cs (h.le.v _ _ h2)
    obtain ⟨uv,Ih,AG⟩:=CO.get h3
    have Lu:u=γ.rv r:=wy.2
    have Rm:uv=γ.rv r:=AG.2
    obtain ⟨row,br⟩:∃ row,c.m.r r=some row:=by
     simp only [Lk.ct,Lk.vw] at Tk
     cases hr:c.m.r r with
     | none=>simp [hr,Vw.ct] at Tk
     | some row=>exact ⟨row,rfl⟩
    have fW:l[cc]'(by omega)= .l row.τ row.xs:=by
     simp only [Lk.ct,Lk.vw,br,Vw.ct,zA] at Tk; exact Tk.symm
    refine ⟨tX (.inr ⟨0,l,cc,row.τ,row.xs,hl,by rw [Nv,fW],rfl,rfl⟩),?_⟩
    show u=c.rv γ w args (300000+0*64+cc)
    rw [c.EK γ w args 0 cc _ (by omega) h1 ng,Lu,← Rm]; simp only [List.getD,Ih]; rfl
   | val h1 h2 h3 h4 =>
    rename_i cs ys ys'
    have eO:∀ (j:Nat) (y':Ct),ys'[j]? =some y'->∃ (cc:Cv) (y:Ct),cs[j]? =some cc/\c.m.ct cc=some y/\(y'=y\/y'=mU y):=by
     intro j y' hj
     have main:∀ (y0:Ct),ys[j]? =some y0->∃ cc,cs[j]? =some cc/\c.m.ct cc=some y0:=fun y0 h=>(kE h3).2 j y0 h
     rcases h4 with ⟨_,rfl,_⟩ | ⟨_,rfl⟩ | ⟨_,rfl,_⟩
     ·obtain ⟨cc,a,b⟩:=main _ hj; exact ⟨cc,_,a,b,.inl rfl⟩
     ·rw [List.getElem?_map] at hj
      cases Ry:ys[j]? with
      | none=>rw [Ry] at hj; cases hj
      | some y0 =>
       rw [Ry] at hj; simp only [Option.map_some,zA] at hj
       obtain ⟨cc,a,b⟩:=main _ Ry; exact ⟨cc,y0,a,b,.inr hj.symm⟩
     ·obtain ⟨cc,a,b⟩:=main _ hj; exact ⟨cc,_,a,b,.inl rfl⟩
    have hlen:ys'.length=cs.length:=by
     have:=(kE h3).1
     rcases h4 with ⟨_,rfl,_⟩ | ⟨_,rfl⟩ | ⟨_,rfl,_⟩
     ·exact this
     ·simpa using this
     ·exact this
    have QI:acl y=ys':=by rcases h1 with ⟨_,rfl⟩ | ⟨_,_,_,rfl,_,rfl⟩<;>rfl
    have one:∀ (j:Nat) (cc:Cv) (y y':Ct) (uv:Value),cs[j]? =some cc->c.m.ct cc=some y->ys'[j]? =some y'->(y'=y\/y'=mU y)->bu S.lk γ cc uv->cellAt u j=uv ->
      bu (entry c.g c.ar.cn c.cP).lk (c.gh X γ w args) (uB (100000+P*64+j) y') uv:=by
     intro j cc y0 y' uv hc dk Ry Xc AG Rn
     have N1:j<64:=by have:=(zU.1 hc).1; omega
     refine zt h.rel AG dk Xc fun τ xs e1=>⟨tX (.inl ⟨P,y,hy,.inl ⟨j,τ,xs,by rw [QI,Ry,e1],rfl,rfl⟩⟩),?_⟩
     show uv=c.rv γ w args (100000+P*64+j)
     rw [c.FG γ w args P j N1 hP,Re,Rn]
    rcases h1 with ⟨rfl,rfl⟩ | ⟨c1,y1,rfl,rfl,rfl,rfl⟩
    ·obtain ⟨us,rfl,CO⟩:=wy
     refine ⟨us,rfl,cj.vH (by rw [s6,hlen]; exact CO.length) fun j x uv Xl Ih=> ?_⟩
     rw [Bv] at Xl
     cases Ry:ys'[j]? with
     | none=>rw [Ry] at Xl; cases Xl
     | some y' =>
      rw [Ry] at Xl; simp only [Option.map_some,zA,Nat.add_zero] at Xl; subst Xl
      obtain ⟨cc,y0,hc,dk,Xc⟩:=eO j y' Ry
      obtain ⟨uv',Zb,AG⟩:=CO.get hc
      rw [Ih] at Zb; cases Zb
      exact one j cc y0 y' uv hc dk Ry Xc AG (by simp [cellAt,Value.cells,List.getD,Ih])
    ·obtain ⟨cc,y0,hc,dk,Xc⟩:=eO 0 y1 rfl
     simp only [List.getElem?_cons_zero,zA] at hc; subst hc
     by_cases Gk:c1= .un
     ·subst Gk
      simp only [Lk.ct,zA] at dk; subst dk
      have:y1= .u:=by rcases Xc with h | h<;>simpa [mU] using h
      subst this; exact trivial
     ·have AG:=bq.to wy Gk
      have h1c:=D1 (AG.one h.rel)
      exact bq.of (one 0 c1 y0 y1 u rfl dk rfl Xc AG (by simp [cellAt,h1c]))
end Go.Soft
namespace Go.Soft
open Go
variable {X:Ctx} {m M:Lk} {γ γ':Gh} {w w':World} {ρ:Operand->Value} {S:St} {δ:Dl}
inductive et (X:Ctx) (I:Prop) (A:Nat->Prop) (O:OM) (w:World):List (Nat×Row)->List (Nat×(Value×List Value))->List (Nat×(Nat×Nat))->Prop
 | nil:et X I A O w [] [] []
 | own {k1 k:Nat} {row:Row} {v:Value} {cs:List Value} {rs:List (Nat×Row)} {V:List (Nat×(Value×List Value))} {G:List (Nat×(Nat×Nat))}:cX X O w k1 row v cs->(row.ow=3\/row.ow=4\/row.ow=5) ->
   et X I A O w rs V G->et X I A O w ((k,row)::rs) ((k,(v,cs))::V) ((k1,(k,row.ow))::G)
 | emp {k d:Nat} {τ:Ty} {rs:List (Nat×Row)} {V:List (Nat×(Value×List Value))} {G:List (Nat×(Nat×Nat))}:et X I A O w rs V G ->
   et X I A O w ((k,⟨τ,[],d⟩)::rs) ((k,(.slice none 0 0,[]))::V) G
 | lM {k:Nat} {τ:Ty} {xs:List (El τ)} {v:Value} {cs:List Value} {rs:List (Nat×Row)} {V:List (Nat×(Value×List Value))} {G:List (Nat×(Nat×Nat))}:I->wx A w τ xs v cs->et X I A O w rs V G ->
   et X I A O w ((k,⟨τ,xs,1⟩)::rs) ((k,(v,cs))::V) G
section
variable {I:Prop} {A:Nat->Prop} {O O':OM} {rs rs':List (Nat×Row)} {V V':List (Nat×(Value×List Value))} {G G':List (Nat×(Nat×Nat))}
theorem et.keys (h:et X I A O w rs V G):keys V=keys rs:=by
 induction h with
 | nil=>rfl
 | own _ _ _ ih=>simp [Soft.keys,ih]
 | emp _ ih=>simp [Soft.keys,ih]
 | lM _ _ _ ih=>simp [Soft.keys,ih]
theorem et.append (h:et X I A O w rs V G) (h':et X I A O w rs' V' G'):et X I A O w (rs++rs') (V++V') (G++G'):=by
 induction h with
 | nil=>exact h'
 | own a b _ ih=>exact .own a b ih
 | emp _ ih=>exact .emp ih
 | lM a b _ ih=>exact .lM a b ih
theorem et.row (h:et X I A O w rs V G) {a:Rb} (hG:∀ p∈G,a.r p.1=some p.2)
  (gV:∀ g o r ow,w.heap[g]? =some o->(ow=3\/ow=4\/ow=5)->R9 r ow (O g)->O' g=(O g).bind a.f) (TF:I->∀ g o,w.heap[g]? =some o->A g->In .ni (O' g)) :
  ∀ k row,lk rs k=some row->∃ v cs,lk V k=some (v,cs)/\cX X O' w k row v cs:=by
 induction h with
 | nil=>intro k row h; simp [lk] at h
 | own hr ho _ ih =>
  rename_i k1 k0 row0 v cs _ _ _ _
  intro k row h
  simp only [lk] at h ⊢
  cases hk:Nat.beq k0 k with
  | false=>simp only [hk] at h ⊢; exact ih (fun p hp=>hG p (zJ _ hp)) k row h
  | true =>
   simp only [hk,zA] at h ⊢; subst h
   have:=aM hk; subst this
   refine ⟨v,cs,rfl,?_⟩
   exact hr.relabel (a:=a) (fun _=>hG _ zO) (Oq (by omega)) (fun g o hg hi=>⟨hg,gV g o k1 _ hg ho hi⟩)
 | emp _ ih =>
  rename_i k0 d τ _ _ _ _
  intro k row h
  simp only [lk] at h ⊢
  cases hk:Nat.beq k0 k with
  | false=>simp only [hk] at h ⊢; exact ih hG k row h
  | true =>
   simp only [hk,zA] at h ⊢; subst h
   exact ⟨_,_,rfl,cX.nil _ _ _ _ _ _⟩
 | lM hI hv _ ih =>
  rename_i k0 τ xs v cs _ _ _ _
  intro k row h
  simp only [lk] at h ⊢
  cases hk:Nat.beq k0 k with
  | false=>simp only [hk] at h ⊢; exact ih hG k row h
  | true =>
   simp only [hk,zA] at h ⊢; subst h
   exact ⟨_,_,rfl,(hv.mono fun g o hg ha=>⟨hg,TF hI g o hg ha⟩).Js⟩
end
structure Fits (m':Lk) (γ':Gh) (rs:List (Nat×Row)) (V:List (Nat×(Value×List Value))):Prop where
 r:∀ k row,(k,row)∈rs->∃ row,m'.r k=some row
 v:∀ k v cs,(k,(v,cs))∈V->γ'.rv k=v
theorem Fits.left {m':Lk} {rs rs':List (Nat×Row)} {V V':List (Nat×(Value×List Value))} (h:Fits m' γ' (rs++rs') (V++V')):Fits m' γ' rs V :=
 ⟨fun k row hm=>h.r k row (List.mem_append_left _ hm),fun k v cs hm=>h.v k v cs (List.mem_append_left _ hm)⟩
theorem Fits.right {m':Lk} {rs rs':List (Nat×Row)} {V V':List (Nat×(Value×List Value))} (h:Fits m' γ' (rs++rs') (V++V')):Fits m' γ' rs' V' :=
 ⟨fun k row hm=>h.r k row (List.mem_append_right _ hm),fun k v cs hm=>h.v k v cs (List.mem_append_right _ hm)⟩
theorem Fits.tail {m':Lk} {p:Nat×Row} {q:Nat×(Value×List Value)} {rs:List (Nat×Row)} {V:List (Nat×(Value×List Value))} (h:Fits m' γ' (p::rs) (q::V)):Fits m' γ' rs V :=
 ⟨fun k row hm=>h.r k row (zJ _ hm),fun k v cs hm=>h.v k v cs (zJ _ hm)⟩
theorem Fits.head {m':Lk} {k:Nat} {row:Row} {v:Value} {cs:List Value} {rs:List (Nat×Row)} {V:List (Nat×(Value×List Value))} (h:Fits m' γ' ((k,row)::rs) ((k,(v,cs))::V)):bu m' γ' (.sw k) v :=
 ⟨h.r k row zO,(h.v k v cs zO).symm⟩
theorem bP.Ip.X2 {c:bP} {args:List Value} (h:c.Ip X S γ w args) {p j:Nat} (hj:j<64) (fW:100000+p*64+j<200000) {row:Row} (hr:(entry c.g c.ar.cn c.cP).lk.r (100000+p*64+j)=some row) :
  ∃ cc,RS c.jj p j=some cc/\bu S.lk γ cc (c.rv γ w args (100000+p*64+j))/\c.m.ct cc=some (.l row.τ row.xs):=by
 rcases Kv hr with ⟨P,x,hx,hA⟩ | ⟨k,l,j',τ,xs,hl,NF,hk,_⟩
 ·obtain ⟨v,u,hv,hu,Re,wy,hP,hA2⟩:=h.arg hx
  rcases hA with ⟨j',τ,xs,NF,hk,rfl⟩ | ⟨τ,xs,rfl,hk,rfl⟩
  ·cases hA2 with
   | val h1 h2 h3 h4 =>
    rename_i cs ys ys'
    have QI:acl x=ys':=by rcases h1 with ⟨_,rfl⟩ | ⟨_,_,_,rfl,_,rfl⟩<;>rfl
    rw [QI] at NF
    have hlen:ys.length=cs.length:=(kE h3).1
    have N1:j'<64:=by
     have h5:=(zU.1 NF).1
     rcases h4 with ⟨_,rfl,_⟩ | ⟨_,rfl⟩ | ⟨_,rfl,_⟩
     ·omega
     ·simp at h5; omega
     ·omega
    obtain ⟨rfl,rfl⟩:p=P/\j=j':=by omega
    have WE:ys[j]? =some (.l τ xs):=by
     rcases h4 with ⟨_,rfl,_⟩ | ⟨_,rfl⟩ | ⟨_,rfl,_⟩
     ·exact NF
     ·rw [List.getElem?_map] at NF
      cases hy:ys[j]? with
      | none=>rw [hy] at NF; cases NF
      | some y=>rw [hy] at NF; cases y<;>simp [mU] at NF
     ·exact NF
    obtain ⟨cc,hc,dk⟩:=(kE h3).2 j _ WE
    rcases ET h.rel h1 wy with ⟨rfl,rfl⟩ | CO
    ·cases j<;>simp at hc; subst hc; simp [Lk.ct] at dk
    ·obtain ⟨uv,Ih,AG⟩:=CO.get hc
     refine ⟨cc,?_,?_,dk⟩
     ·simp only [RS,iC,hv]
      rcases h1 with ⟨rfl,_⟩ | ⟨c1,y1,rfl,_,rfl,_⟩
      ·exact hc
      ·cases j with
       | zero=>exact hc
       | succ j=>simp at hc
     ·rw [c.FG γ w args p j hj hP,Re,show cellAt u j=uv by simp [cellAt,List.getD,Ih]]
      exact AG
   | _=>simp [acl] at NF
  ·omega
 ·omega
theorem B1 {c:bP} {args:List Value} (h:c.Ip X S γ w args) {K:List Nat} {O:OM} {w1:World} {d:Nat} {y:Rc} {v:Value} {ks:List Nat}
  (hy:rX X (entry c.g c.ar.cn c.cP).lk (c.gh X γ w args) K O w1 d y v ks) {x:Cv} (hx:qa c.jj y=some x):ks=[]/\bu S.lk γ x v:=by
 cases y with
 | c y=>simp [qa] at hx
 | m y=>simp [qa] at hx
 | un=>simp only [qa,zA] at hx; subst hx; exact hy
 | aw p j =>
  obtain ⟨rfl,row,hj,fW,hr,rfl⟩:=hy
  obtain ⟨cc,h1,h2,_⟩:=h.X2 hj fW hr
  simp only [qa] at hx
  rw [h1] at hx; cases hx
  exact ⟨rfl,h2⟩
 | al p j e cc =>
  obtain ⟨rfl,row,τ,ys,hj,fW,hr,he,hc,hv⟩:=hy
  obtain ⟨c1,h1,h2,h3⟩:=h.X2 hj fW hr
  have xS:=h.pre.rel.rs _ row hr
  obtain ⟨u',pg,eO⟩:=xS.rU e cc _ he hc
  have TK:(c.gh X γ w args).cv (100000+p*64+j)=c.cv X γ w args (100000+p*64+j):=rfl
  rw [hv] at pg; cases pg
  have ib:v.oneCell'=true:=eO.2.Aa.Jd.one
  have Uj:=Kq h3
  refine ⟨rfl,?_⟩
  simp only [qa,h1] at hx
  cases c1 with
  | sw r =>
   simp only [zA] at hx; subst hx
   simp only [Lk.vw] at Uj
   cases Lu:c.m.r r with
   | none=>simp [Lu,Vw.ct] at Uj
   | some row2 =>
    simp only [Lu,Vw.ct,zA,Ct.l.injEq] at Uj
    obtain ⟨e1,e2⟩:=Uj
    obtain ⟨τ1,xs1,ow1⟩:=row
    obtain ⟨τ2,xs2,ow2⟩:=row2
    simp only at e1 e2
    subst e1
    have e2:=eq_of_heq e2
    subst e2
    have fU:=h.le.r r _ Lu
    have xR:c.rv γ w args (100000+p*64+j)=γ.rv r:=h2.2
    have cz:=xS.top.Aa
    have LM:=(h.rel.rs r _ fU).top.Aa
    have je:(c.gh X γ w args).cv (100000+p*64+j)=γ.cv r:=by
     have acS:(c.gh X γ w args).rv (100000+p*64+j)=γ.rv r:=xR
     rw [acS] at cz
     exact wO cz LM
    exact ⟨_,τ,ys,fU,he,hc,by rw [← je]; exact hv⟩
  | sl r off n =>
   simp only [zA] at hx; subst hx
   simp only [Lk.vw] at Uj
   cases Lu:c.m.r r with
   | none=>simp [Lu,Vw.ct] at Uj
   | some row2 =>
    simp only [Lu,Vw.ct,zA,Ct.l.injEq] at Uj
    obtain ⟨e1,e2⟩:=Uj
    obtain ⟨τ1,xs1,ow1⟩:=row
    obtain ⟨τ2,xs2,ow2⟩:=row2
    simp only at e1 e2
    subst e1
    have e2:=eq_of_heq e2
    subst e2
    have fU:=h.le.r r _ Lu
    obtain ⟨row',cC,hle,sr⟩:=h2
    rw [fU] at cC; cases cC
    have cz:=xS.top.Aa
    have LM:=(h.rel.rs r _ fU).top.Aa.sub hle sr
    have hl:=kL xs2 hle
    simp only at cz he hc hv LM hle
    rw [hl] at cz he
    have je:(c.gh X γ w args).cv (100000+p*64+j)=((γ.cv r).drop (off*sz τ2)).take (n*sz τ2):=wO cz LM
    rw [je] at hv
    have cb:(cells τ2 ((sub xs2 off n).getD e (cy τ2)))[cc]? =some (.l τ ys):=hc
    rw [sV xs2 _ he] at cb
    have lS:cc<sz τ2:=by
     have:=(zU.1 cb).1
     rwa [bf] at this
    have ac4:e*sz τ2+cc<n*sz τ2:=by
     have:=zP (sz τ2) (show e+1<=n from he)
     rw [Nat.add_mul] at this; omega
    rw [List.getElem?_take,if_pos ac4,List.getElem?_drop] at hv
    refine ⟨_,τ,ys,fU,by simp only; omega,cb,?_⟩
    show (γ.cv r)[(off+e)*sz τ2+cc]? =some v
    rw [← hv]; congr 1; rw [Nat.add_mul]; omega
  | _=>simp only [zA] at hx; subst hx; exact ib
theorem qk:∀ (l:List Rc),ML l=l.length
 | []=>rfl
 | _::l=>by simp [ML,qk l]
theorem DR {m':Lk} {y:Ct} {x:Cv} (h:kB y=some x) {v:Value} (hv:(y= .u/\v.oneCell'=true)\/(y≠ .u/\v=gJ y)):bu m' γ' x v:=by
 cases y with
 | l τ xs=>simp [kB] at h
 | u =>
  simp only [kB,zA] at h; subst h
  rcases hv with ⟨_,h⟩ | ⟨h,_⟩
  ·exact h
  ·exact absurd rfl h
 | _ =>
  simp only [kB,zA] at h; subst h
  rcases hv with ⟨h,_⟩ | ⟨_,h⟩
  ·cases h
  ·exact h
def PW (X:Ctx) (S:St) (γ:Gh) (I:Prop) (A:Nat->Prop) (O:OM) (w1:World) (f:Cv->Cv) (k n:Nat) (ks:List Nat) (rs:List (Nat×Row)) (Q:Lk->Gh->Prop):Prop :=
 ∃ V G,keys G=ks/\et X I A O w1 rs V G/\(∀ x∈keys rs,k<=x/\x<k+n) /\
  ∀ m' γ',Fits m' γ' rs V->(∀ x v,bu S.lk γ x v->bu m' γ' (f x) v)->Q m' γ'
theorem xM {c:bP} {args:List Value} (h:c.Ip X S γ w args) {K:List Nat} {O:OM} {w1:World} {f:Cv->Cv} {ms:List Nat} {ys:List Rc} {us:List Value} {ks:List Nat}
  (hr:nr X (entry c.g c.ar.cn c.cP).lk (c.gh X γ w args) K O w1 ms ys us ks):∀ {k:Nat} {cs:List Cv} {rs:List (Nat×Row)},kV f c.jj c.ar.lM k ms ys=some (cs,rs) ->
  PW X S γ (c.ar.lM=true) (fun g=>∃ r,r∉K/\MM r (O g)) O w1 f k ys.length ks rs fun m' γ'=>cj m' γ' cs us:=by
 induction hr with
 | nil =>
  intro k cs rs h
  simp only [kV,zA,zG] at h; obtain ⟨rfl,rfl⟩:=h
  exact ⟨[],[],rfl,.nil,by simp [keys],fun _ _ _ _=> .nil⟩
 | cons hy _ ih =>
  rename_i ms y v k1 ys vs ks _
  intro k cs rs bV
  simp only [kV] at bV
  cases eL:kV f c.jj c.ar.lM (k+1) (tl ms) ys with
  | none=>simp [eL] at bV
  | some p =>
   obtain ⟨cs',rs'⟩:=p
   simp only [eL] at bV
   obtain ⟨V,G,hG,hN,hK,hQ⟩:=ih eL
   have lift:∀ x∈keys rs',k<=x/\x<k+(ys.length+1):=fun x hx=>by have:=hK x hx; omega
   have plain:∀ (x:Cv),k1=[]->cs=x::cs'->rs=rs'->(∀ m' γ',(∀ x v,bu S.lk γ x v->bu m' γ' (f x) v)->bu m' γ' x v) ->
     PW X S γ (c.ar.lM=true) (fun g=>∃ r,r∉K/\MM r (O g)) O w1 f k (ys.length+1) (k1++ks) rs fun m' γ'=>cj m' γ' cs (v::vs):=by
    rintro x rfl rfl rfl hx
    exact ⟨V,G,by simpa using hG,hN,lift,fun m' γ' hF hk=> .cons (hx m' γ' hk) (hQ m' γ' hF hk)⟩
   cases y with
   | m y =>
    obtain ⟨rfl,ib,mF⟩:=hy
    cases y with
    | l τ xs =>
     simp only at bV
     cases hi:c.ar.lM with
     | true =>
      simp only [hi,zA,zG] at bV
      obtain ⟨rfl,rfl⟩:=bV
      obtain ⟨cv,mF⟩:=mF
      refine ⟨(k,(v,cv))::V,G,by simpa using hG,.lM rfl mF (by rw [hi] at hN; exact hN),fun x hx=> ?_,fun m' γ' hF hk=> .cons hF.head (hQ m' γ' hF.tail hk)⟩
      simp only [keys,zI] at hx
      rcases hx with rfl | hx
      ·simp
      ·exact lift x hx
     | false =>
      simp only [hi,zA,zG] at bV
      rw [← hi]
      exact plain .un rfl bV.1.symm bV.2.symm (fun _ _ _=>ib)
    | u =>
     simp only [kB,zA,zG] at bV
     exact plain _ rfl bV.1.symm bV.2.symm (fun _ _ _=>ib)
    | b x =>
     simp only [kB,zA,zG] at bV
     exact plain _ rfl bV.1.symm bV.2.symm (fun _ _ _=>mF)
    | i a n =>
     simp only [kB,zA,zG] at bV
     exact plain _ rfl bV.1.symm bV.2.symm (fun _ _ _=>mF)
    | s x =>
     simp only [kB,zA,zG] at bV
     exact plain _ rfl bV.1.symm bV.2.symm (fun _ _ _=>mF)
   | c y =>
    cases y with
    | l τ xs =>
     simp only [zA,zG] at bV
     obtain ⟨rfl,rfl⟩:=bV
     obtain ⟨Nt,rT⟩:=hy
     have jf:∀ x∈keys ((k,(⟨τ,xs,w5 (hd ms)⟩:Row))::rs'),k<=x/\x<k+(ys.length+1):=fun x hx=>by
      simp only [keys,zI] at hx
      rcases hx with rfl | hx
      ·simp
      ·exact lift x hx
     rcases rT with ⟨rfl,rfl,rfl⟩ | ⟨key,cv,rfl,br⟩
     ·exact ⟨(k,(.slice none 0 0,[]))::V,G,by simpa using hG,.emp hN,jf,fun m' γ' hF hk=> .cons hF.head (hQ m' γ' hF.tail hk)⟩
     ·have Nt:sf (hd ms)=true:=Nt.resolve_right (by simp)
      have hw:w5 (hd ms)=hd ms:=by rcases mA Nt with h | h | h<;>rw [h]<;>rfl
      rw [hw] at jf ⊢
      exact ⟨(k,(v,cv))::V,(key,(k,hd ms))::G,by simp [keys,hG],.own br (mA Nt) hN,jf,fun m' γ' hF hk=> .cons hF.head (hQ m' γ' hF.tail hk)⟩
    | u =>
     simp only [kB,zA,zG] at bV
     exact plain _ hy.1 bV.1.symm bV.2.symm (fun _ _ _=>hy.2)
    | b x =>
     simp only [kB,zA,zG] at bV
     exact plain _ hy.1 bV.1.symm bV.2.symm (fun _ _ _=>hy.2)
    | i a n =>
     simp only [kB,zA,zG] at bV
     exact plain _ hy.1 bV.1.symm bV.2.symm (fun _ _ _=>hy.2)
    | s x =>
     simp only [kB,zA,zG] at bV
     exact plain _ hy.1 bV.1.symm bV.2.symm (fun _ _ _=>hy.2)
   | al p j e cc =>
    simp only at bV
    cases ha:qa c.jj (.al p j e cc) with
    | none=>simp [ha] at bV
    | some x =>
     simp only [ha,zA,zG] at bV
     obtain ⟨h1,h2⟩:=B1 h hy ha
     exact plain _ h1 bV.1.symm bV.2.symm (fun _ _ hk=>hk x v h2)
   | aw p j =>
    simp only at bV
    cases ha:qa c.jj (.aw p j) with
    | none=>simp [ha] at bV
    | some x =>
     simp only [ha,zA,zG] at bV
     obtain ⟨h1,h2⟩:=B1 h hy ha
     exact plain _ h1 bV.1.symm bV.2.symm (fun _ _ hk=>hk x v h2)
   | un =>
    simp only at bV
    cases ha:qa c.jj .un with
    | none=>simp [ha] at bV
    | some x =>
     simp only [ha,zA,zG] at bV
     obtain ⟨h1,h2⟩:=B1 h hy ha
     exact plain _ h1 bV.1.symm bV.2.symm (fun _ _ hk=>hk x v h2)
theorem OQ {c:bP} {args:List Value} (h:c.Ip X S γ w args) {K:List Nat} {O:OM} {w1:World} {f:Cv->Cv} {ms:List (List Nat)} {ys:List (Bool×List Rc)} {us:List Value} {ks:List Nat}
  (hr:qH X (entry c.g c.ar.cn c.cP).lk (c.gh X γ w args) K O w1 ms ys us ks):∀ {k:Nat} {ts:List (Bool×List Cv)} {rs:List (Nat×Row)},r7 f c.jj c.ar.lM k ms ys=some (ts,rs) ->
  PW X S γ (c.ar.lM=true) (fun g=>∃ r,r∉K/\MM r (O g)) O w1 f k (Mp ys) ks rs fun m' γ'=>s8 m' γ' ts us:=by
 induction hr with
 | nil =>
  intro k cs rs h
  simp only [r7,zA,zG] at h; obtain ⟨rfl,rfl⟩:=h
  exact ⟨[],[],rfl,.nil,by simp [keys],fun _ _ _ _=> .nil⟩
 | cons hy hb1 ZC _ ih =>
  rename_i ms b l us v k1 ys vs ks _
  intro k ts rs bV
  simp only [r7] at bV
  cases h1:kV f c.jj c.ar.lM k (ov ms) l with
  | none=>simp [h1] at bV
  | some p =>
   cases h2:r7 f c.jj c.ar.lM (k+l.length) (tl ms) ys with
   | none=>simp [h1,h2] at bV
   | some q =>
    obtain ⟨cs1,rs1⟩:=p
    obtain ⟨ts2,rs2⟩:=q
    simp only [h1,h2,zA,zG] at bV
    obtain ⟨rfl,rfl⟩:=bV
    obtain ⟨V1,G1,g1,n1,k1',q1⟩:=xM h hy h1
    obtain ⟨V2,G2,g2,n2,k2',q2⟩:=ih h2
    refine ⟨V1++V2,G1++G2,by rw [bC,g1,g2],n1.append n2,fun x hx=> ?_,fun m' γ' hF hk=> .cons ⟨us,q1 m' γ' hF.left hk,hb1,ZC⟩ (q2 m' γ' hF.right hk)⟩
    rw [bC,zH] at hx
    simp only [Mp,qk]
    rcases hx with hx | hx
    ·have:=k1' x hx; omega
    ·have:=k2' x hx; omega
theorem ui:∀ (n k x:Nat),x∈VC k n↔k<=x/\x<k+n
 | 0,k,x=>by simp [VC]
 | n+1,k,x=>by simp only [VC,zI,ui n (k+1) x]; omega
theorem bP.Ok.own {c:bP} (h:c.Ok):keys (oR c.m 0 c.g.vl c.ar.κ)=c.ow/\∀ (k v:Nat),c.ar.κ[k]? =some v->∃ cs,c.m.v v=some cs/\∀ j cc,cs[j]? =some cc ->
  Hh c.m (·∈c.b) (fun r x d=>(r,(x,d))∈oR c.m 0 c.g.vl c.ar.κ) (300000+k*64+j) (md (LZ c.g.vl k) j) cc:=by
 have hh:=h.hand
 simp only [Lk.te] at hh
 cases ho:c.m.eQ c.g.vl c.ar.κ with
 | none=>simp [ho] at hh
 | some p =>
  obtain ⟨ow,b⟩:=p
  have hb:ow=c.ow/\b=c.b:=by
   simp only [ho] at hh
   revert hh; split
   ·intro hh; simp only [zA,zG] at hh; exact hh
   ·intro hh; cases hh
  obtain ⟨h1,h2⟩:=mJ (k0:=0) ho
  rw [hb.1] at h1
  rw [hb.2] at h2
  refine ⟨h1,fun k v hk=> ?_⟩
  obtain ⟨cs,h3,h4⟩:=h2 k v hk
  refine ⟨cs,h3,fun j cc hc=> ?_⟩
  have:=h4 j cc hc
  rwa [Nat.zero_add] at this
theorem yd (v:Nat):∀ (cs:List Cv) (j x:Nat),x∈homes v j cs↔∃ i,i<cs.length/\x=1000000+v*64+j+i
 | [],j,x=>by simp [homes]
 | c::cs,j,x=>by
  simp only [homes,zI,yd v cs (j+1) x,zR]
  constructor
  ·rintro (rfl | ⟨i,h1,rfl⟩)
   ·exact ⟨0,by omega,by omega⟩
   ·exact ⟨i+1,by omega,by omega⟩
  ·rintro ⟨i,h1,rfl⟩
   cases i with
   | zero=>left; omega
   | succ i=>exact .inr ⟨i,by omega,by omega⟩
theorem zr:∀ {κ:List Nat} {v x:Nat} {cs:List Cv},v∈κ->m.v v=some cs->x∈homes v 0 cs->x∈m.lI κ
 | [],v,x,cs,h,_,_=>by simp at h
 | u::κ,v,x,cs,h,hv,hx=>by
  simp only [Lk.lI,zH]
  rcases zI.1 h with rfl | h
  ·left; rw [hv]; exact hx
  ·exact .inr (zr h hv hx)
theorem BT:∀ {κ:List Nat} {x:Nat},x∈m.lI κ->1000000<=x
 | [],x,h=>by simp [Lk.lI] at h
 | u::κ,x,h=>by
  simp only [Lk.lI,zH] at h
  rcases h with h | h
  ·cases hu:m.v u with
   | none=>rw [hu] at h; simp at h
   | some cs=>rw [hu] at h; obtain ⟨i,_,rfl⟩:=(yd u cs 0 x).1 h; omega
  ·exact BT h
theorem H4 {I:Prop} {A:Nat->Prop} {γ0:Gh} {O:OM} {w1:World} {f:Cv->Cv} {v key:Nat} {ms:List Nat} {ys:List Ct} {us:List Value} {ks:List Nat} (hr:p7 X γ0 O w1 key ms ys us ks) :
  ∀ {j:Nat} {cs cs':List Cv} {rs:List (Nat×Row)},eC f v j ms cs ys=some (cs',rs)->(∀ (i:Nat) (cc:Cv),cs[i]? =some cc->md ms i=1->bu S.lk γ cc (γ0.rv (key+i))) ->
   ∃ V G,keys G=ks/\et X I A O w1 rs V G/\(∀ x∈keys rs,(∃ i,cs[i]? =some (.sw x)/\md ms i≠0/\md ms i≠1)\/∃ i,i<cs.length/\x=1000000+v*64+j+i) /\
    (∀ p∈rs,sf p.2.ow=true) /\
    ∀ m' γ',Fits m' γ' rs V->(∀ x v,bu S.lk γ x v->bu m' γ' (f x) v)->cj m' γ' cs' us:=by
 induction hr with
 | nil =>
  intro j cs cs' rs h _
  cases cs with
  | nil=>simp only [eC,zA,zG] at h; obtain ⟨rfl,rfl⟩:=h; exact ⟨[],[],rfl,.nil,by simp [keys],by simp,fun _ _ _ _=> .nil⟩
  | cons=>simp [eC] at h
 | cons hy _ ih =>
  rename_i key ms y u a ys us ks _
  intro j cs cs' rs h ib
  cases cs with
  | nil=>simp [eC] at h
  | cons c cs =>
   simp only [eC] at h
   cases eL:eC f v (j+1) (tl ms) cs ys with
   | none=>simp [eL] at h
   | some p =>
    obtain ⟨cs2,rs2⟩:=p
    simp only [eL] at h
    obtain ⟨V,G,hG,hN,hK,hO,hQ⟩:=ih eL (fun i cc hc hm=>by rw [zW] at hm; have:=ib (i+1) cc (by simpa using hc) hm; rwa [show key+(i+1)=key+1+i by omega] at this)
    have lift:∀ x∈keys rs2,(∃ i,(c::cs)[i]? =some (.sw x)/\md ms i≠0/\md ms i≠1)\/∃ i,i<(c::cs).length/\x=1000000+v*64+j+i:=by
     intro x hx
     rcases hK x hx with ⟨i,h1,h2,h3⟩ | ⟨i,h1,h2⟩
     ·exact .inl ⟨i+1,by simpa using h1,by rwa [zW] at h2,by rwa [zW] at h3⟩
     ·exact .inr ⟨i+1,by simp; omega,by omega⟩
    have plain:∀ x,a=[]->cs'=x::cs2->rs=rs2->(∀ m' γ',(∀ x v,bu S.lk γ x v->bu m' γ' (f x) v)->bu m' γ' x u) ->
      ∃ V G,keys G=a++ks/\et X I A O w1 rs V G/\(∀ x∈keys rs,(∃ i,(c::cs)[i]? =some (.sw x)/\md ms i≠0/\md ms i≠1)\/∃ i,i<(c::cs).length/\x=1000000+v*64+j+i) /\
       (∀ p∈rs,sf p.2.ow=true)/\∀ m' γ',Fits m' γ' rs V->(∀ x v,bu S.lk γ x v->bu m' γ' (f x) v)->cj m' γ' cs' (u::us):=by
     rintro x rfl rfl rfl hx
     exact ⟨V,G,by simpa using hG,hN,lift,hO,fun m' γ' hF hk=> .cons (hx m' γ' hk) (hQ m' γ' hF hk)⟩
    have aek:hd ms=0\/hd ms=1\/∃ n,hd ms=n+2:=by
     rcases hn:hd ms with _ | _ | n
     ·exact .inl rfl
     ·exact .inr (.inl rfl)
     ·exact .inr (.inr ⟨n,rfl⟩)
    rcases aek with h0 | h1 | ⟨n,Is⟩
    ·simp only [s9,h0] at hy h
     obtain ⟨rfl,rfl,AJ⟩:=hy
     cases hf:kB y with
     | none=>simp [hf] at h
     | some x =>
      simp only [hf,zA,zG] at h
      refine plain x rfl h.1.symm h.2.symm (fun m' γ' _=>DR hf (.inr ⟨?_,rfl⟩))
      rintro rfl; exact AJ
    ·simp only [s9,h1] at hy h
     simp only [zA,zG] at h
     obtain ⟨rfl,rfl⟩:=hy
     have:=ib 0 c rfl h1
     rw [Nat.add_zero] at this
     exact plain (f c) rfl h.1.symm h.2.symm (fun m' γ' hk=>hk c _ this)
    ·simp only [s9,Is] at hy h
     rw [← Is] at hy
     cases y with
     | l τ xs =>
      simp only at h hy
      obtain ⟨Nt,rT⟩:=hy
      have hm0:md ms 0≠0/\md ms 0≠1:=by
       rcases mA Nt with h | h | h<;>rw [w7,h]<;>decide
      have fin:∀ (kk:Nat),cs'= .sw kk::cs2->rs=(kk,(⟨τ,xs,hd ms⟩:Row))::rs2->((c= .sw kk)\/kk=1000000+v*64+j) ->
        ∃ V G,keys G=a++ks/\et X I A O w1 rs V G/\(∀ x∈keys rs,(∃ i,(c::cs)[i]? =some (.sw x)/\md ms i≠0/\md ms i≠1)\/∃ i,i<(c::cs).length/\x=1000000+v*64+j+i) /\
         (∀ p∈rs,sf p.2.ow=true)/\∀ m' γ',Fits m' γ' rs V->(∀ x v,bu S.lk γ x v->bu m' γ' (f x) v)->cj m' γ' cs' (u::us):=by
       rintro kk rfl rfl jf
       have hK':∀ x∈keys ((kk,(⟨τ,xs,hd ms⟩:Row))::rs2),(∃ i,(c::cs)[i]? =some (.sw x)/\md ms i≠0/\md ms i≠1)\/∃ i,i<(c::cs).length/\x=1000000+v*64+j+i:=by
        intro x hx
        simp only [keys,zI] at hx
        rcases hx with rfl | hx
        ·rcases jf with rfl | rfl
         ·exact .inl ⟨0,rfl,hm0⟩
         ·exact .inr ⟨0,by simp,by omega⟩
        ·exact lift x hx
       have hO':∀ p∈(kk,(⟨τ,xs,hd ms⟩:Row))::rs2,sf p.2.ow=true:=by
        intro p hp
        rcases zI.1 hp with rfl | hp
        ·exact Nt
        ·exact hO p hp
       rcases rT with ⟨rfl,rfl,rfl⟩ | ⟨k1,cv,rfl,br⟩
       ·exact ⟨(kk,(.slice none 0 0,[]))::V,G,by simpa using hG,.emp hN,hK',hO',fun m' γ' hF hk=> .cons hF.head (hQ m' γ' hF.tail hk)⟩
       ·exact ⟨(kk,(u,cv))::V,(k1,(kk,hd ms))::G,by simp [keys,hG],.own br (mA Nt) hN,hK',hO',fun m' γ' hF hk=> .cons hF.head (hQ m' γ' hF.tail hk)⟩
      rw [← Is] at h
      revert h; split
      ·intro h; simp only [zA,zG] at h; exact fin _ h.1.symm h.2.symm (.inl rfl)
      ·intro h; simp only [zA,zG] at h; exact fin _ h.1.symm h.2.symm (.inr rfl)
     | _=>simp at h
theorem A3 {α:Type} (l:List α) (k:Nat):tl (l.drop k)=l.drop (k+1):=by
 have:∀ l:List α,tl l=l.drop 1:=by intro l; cases l<;>rfl
 rw [this,List.drop_drop]
theorem JW {c:bP} {args:List Value} (h:c.Ip X S γ w args) {I:Prop} {A:Nat->Prop} {O:OM} {w1:World} {f:Cv->Cv} {k0:Nat} {ms:List (List Nat)} {vo:List (List Ct)} {ks:List Nat}
  (hr:xE X (c.gh X γ w args) O w1 k0 ms vo ks):∀ {κ':List Nat} {vs:List (Nat×List Cv)} {rs:List (Nat×Row)},(∀ (i:Nat),κ'[i]? =c.ar.κ[k0+i]?)->ms=c.g.vl.drop k0->c.m.gi f ms κ' vo=some (vs,rs) ->
   ∃ V G,keys G=ks/\et X I A O w1 rs V G/\keys vs=κ'/\(∀ x∈keys rs,(x∈c.ow/\zk x=true)\/x∈c.m.lI c.ar.κ)/\(∀ p∈rs,sf p.2.ow=true) /\
    ∀ m' γ',Fits m' γ' rs V->(∀ x v,bu S.lk γ x v->bu m' γ' (f x) v)->∀ v cs',(v,cs')∈vs ->
     ∃ (k:Nat) (cur:Array Value) (e:TypeId),c.ar.κ[k]? =some v/\O (γ.vb v)=some (.v k)/\w1.heap[γ.vb v]? =some (.cells cur e (0,0))/\cj m' γ' cs' cur.toList:=by
 induction hr with
 | nil =>
  intro κ' vs rs hκ N0 hv
  cases κ' with
  | nil=>simp only [Lk.gi,zA,zG] at hv; obtain ⟨rfl,rfl⟩:=hv; exact ⟨[],[],rfl,.nil,rfl,by simp [keys],by simp,fun _ _ _ _ v cs' hm=>by simp at hm⟩
  | cons=>simp [Lk.gi] at hv
 | cons hO1 ng je _ ih =>
  rename_i k0 ms l a vo ks cur e _
  intro κ' vs rs hκ N0 hv
  cases κ' with
  | nil=>simp [Lk.gi] at hv
  | cons v κ' =>
   simp only [Lk.gi] at hv
   cases EG:c.m.v v with
   | none=>simp [EG] at hv
   | some cs =>
    cases h1:eC f v 0 (ov ms) cs l with
    | none=>simp [EG,h1] at hv
    | some p =>
     cases h2:c.m.gi f (tl ms) κ' vo with
     | none=>simp [EG,h1,h2] at hv
     | some q =>
      obtain ⟨a1,r1⟩:=p
      obtain ⟨b1,q1⟩:=q
      simp only [EG,h1,h2,zA,zG] at hv
      obtain ⟨rfl,rfl⟩:=hv
      have Iu:c.ar.κ[k0]? =some v:=by have:=hκ 0; simpa using this.symm
      have Gp:(c.gh X γ w args).vb k0=γ.vb v:=by show γ.vb (c.ar.κ.getD k0 0)=_; simp [List.getD,Iu]
      rw [Gp] at hO1 ng
      obtain ⟨YY,YT⟩:=h.ok.own
      obtain ⟨cs2,Qs,Xf⟩:=YT k0 v Iu
      rw [EG] at Qs; cases Qs
      have NY:ov ms=LZ c.g.vl k0:=by rw [N0]; rfl
      obtain ⟨_,cur0,e0,Zd,acR⟩:=h.rel.vs v cs (h.le.v _ _ EG)
      obtain ⟨cs3,_,Yx,_,_,Wv⟩:=(w9 h.ok.uT).2 k0 v Iu
      rw [EG] at Yx; cases Yx
      obtain ⟨V1,G1,g1,n1,k1,o1,q1'⟩:=H4 (S:=S) (γ:=γ) (I:=I) (A:=A) je h1 (fun i cc hc _=>by
       obtain ⟨uv,Ih,AG⟩:=acR.get hc
       have:(c.gh X γ w args).rv (300000+k0*64+i)=uv:=by
        show c.rv γ w args (300000+k0*64+i)=uv
        have hil:i<64:=by have:=(zU.1 hc).1; omega
        rw [c.EK γ w args k0 i v hil Iu Zd]; simp only [List.getD,Ih]; rfl
       rw [this]; exact AG)
      obtain ⟨V2,G2,g2,n2,k2,k2',o2,q2⟩:=ih (fun i=>by have:=hκ (i+1); rw [List.getElem?_cons_succ] at this; rw [this]; congr 1; omega) (by rw [N0,A3]) h2
      refine ⟨V1++V2,G1++G2,by rw [bC,g1,g2],n1.append n2,by simp [keys,k2],fun x hx=> ?_,fun p hp=> ?_,fun m' γ' hF hk u cs' hm=> ?_⟩
      ·rw [bC,zH] at hx
       rcases hx with hx | hx
       ·rcases k1 x hx with ⟨i,e1,e2,e3⟩ | ⟨i,e1,e2⟩
        ·rw [NY] at e2 e3
         rcases Xf i _ e1 with ⟨hd,_⟩ | ⟨_,⟨r,row,e4,_,_,e5,e6⟩ | ⟨σ,e4⟩⟩
         ·rcases hd with hd | hd
          ·exact absurd hd e2
          ·exact absurd hd e3
         ·cases e4
          exact .inl ⟨by rw [← YY]; exact mem_keys e6,e5⟩
         ·cases e4
        ·exact .inr (zr (List.mem_of_getElem? Iu) EG ((yd v cs 0 x).2 ⟨i,e1,e2⟩))
       ·exact k2' x hx
      ·rcases zH.1 hp with hp | hp
       ·exact o1 p hp
       ·exact o2 p hp
      ·rcases zI.1 hm with hm | hm
       ·cases hm
        exact ⟨k0,cur,e,Iu,hO1,ng,q1' m' γ' hF.left hk⟩
       ·exact q2 m' γ' hF.right hk u cs' hm
theorem Cf (key d:Nat):∀ (cs:List Cv) (j:Nat),(∀ r,Cv.sw r∉cs)->v8 key d j cs=[]
 | [],j,_=>rfl
 | c::cs,j,h=>by
  have:=Cf key d cs (j+1) (fun r hr=>h r (zJ _ hr))
  cases c<;>simp only [v8]<;>first | exact this | exact absurd zO (h _)
theorem PD {c:bP} {args:List Value} (h:c.Ip X S γ w args) {I:Prop} {A:Nat->Prop} {O:OM} {w1:World} {p:Nat} {cn:List AC} {ys:List Ct} {ks:List Nat}
  (hr:r8 X (c.gh X γ w args) O w1 p cn ys ks):∀ {jj:List AV} {r2:List (Nat×Row)},(∀ (i:Nat),cn[i]? =c.ar.cn[p+i]?)->(∀ (i:Nat),jj[i]? =c.jj[p+i]?)->cn.length=jj.length ->
   c.m.nI (keys (Gg (c.g.am.drop p) p jj)) ys=some r2 ->
   ∃ V G,keys G=ks/\et X I A O w1 r2 V G/\(∀ p∈r2,p.2.ow=5)/\∀ k v cs,(k,(v,cs))∈V->v=γ.rv k:=by
 induction hr with
 | nil =>
  intro jj r2 _ _ hl C3
  cases jj with
  | cons=>simp at hl
  | nil=>simp only [Gg,keys,Lk.nI,zA] at C3; subst C3; exact ⟨[],[],rfl,.nil,by simp,by simp⟩
 | io br _ ih =>
  rename_i p τ xs xs' cs l ys ks _
  intro jj r2 QT QE hl C3
  cases jj with
  | nil=>simp at hl
  | cons v jj =>
   have hx:c.ar.cn[p]? =some (.io τ xs):=by have:=QT 0; simpa using this.symm
   have hv0:c.jj[p]? =some v:=by have:=QE 0; simpa using this.symm
   obtain ⟨v',u,hv,hu,Re,wy,hP,hA⟩:=h.arg hx
   rw [hv0] at hv; cases hv
   cases hA with
   | val h1=>rcases h1 with ⟨_,h⟩ | ⟨_,_,_,h,_⟩<;>cases h
   | io h0 h9 hmr hH =>
    rename_i r
    have Zp:hd (c.g.am.drop p)=9:=h9
    simp only [Gg,Zp,Mh,NP,v8,bC,A3] at C3
    simp only [keys,List.singleton_append,List.cons_append,List.nil_append,Lk.nI,hmr] at C3
    cases eL:c.m.nI (keys (Gg (c.g.am.drop (p+1)) (p+1) jj)) ys with
    | none=>simp [eL] at C3
    | some q =>
     simp only [eL,P8,zA] at C3; subst C3
     obtain ⟨V,G,hG,hN,h5,hV⟩:=ih (fun i=>by have:=QT (i+1); rw [List.getElem?_cons_succ] at this; rw [this]; congr 1; omega)
      (fun i=>by have:=QE (i+1); rw [List.getElem?_cons_succ] at this; rw [this]; congr 1; omega) (by simpa using hl) eL
     have xR:(c.gh X γ w args).rv (200000+p*64)=γ.rv r:=by
      show c.rv γ w args (200000+p*64)=_
      rw [c.PX γ w args p hP,Re]; exact wy.2
     rw [xR] at br
     refine ⟨(r,(γ.rv r,cs))::V,(200000+p*64,(r,5))::G,by simp [keys,hG],.own br (.inr (.inr rfl)) hN,fun q hq=> ?_,fun k v' cs' hm=> ?_⟩
     ·rcases zI.1 hq with rfl | hq
      ·rfl
      ·exact h5 q hq
     ·rcases zI.1 hm with hm | hm
      ·cases hm; rfl
      ·exact hV k v' cs' hm
 | skip cT _ ih =>
  rename_i p x l ys ks _
  intro jj r2 QT QE hl C3
  cases jj with
  | nil=>simp at hl
  | cons v jj =>
   have hx:c.ar.cn[p]? =some x:=by have:=QT 0; simpa using this.symm
   have hv0:c.jj[p]? =some v:=by have:=QE 0; simpa using this.symm
   obtain ⟨v',u,hv,hu,Re,wy,hP,hA⟩:=h.arg hx
   rw [hv0] at hv; cases hv
   have Ic:Gg (c.g.am.drop p) p (v::jj)=Gg (c.g.am.drop (p+1)) (p+1) jj:=by
    simp only [Gg,A3]
    cases h9:Mh (hd (c.g.am.drop p)) with
    | false=>rfl
    | true =>
     have hd9:md c.g.am p=9:=by
      have:hd (c.g.am.drop p)=9:=by
       revert h9; unfold Mh; split
       ·rename_i h; exact fun _=>h
       ·simp
      exact this
     have CQ:v8 (200000+p*64) 5 0 (NP v)=[]:=by
      cases hA with
      | ptr _ _=>exact Cf _ _ _ _ (by simp [NP])
      | fn _ _ _=>exact Cf _ _ _ _ (by simp [NP])
      | val h1 h2 h3 h4 =>
       exfalso
       rw [hd9] at h4
       rcases h4 with ⟨h,_⟩ | ⟨h,_⟩ | ⟨h,_⟩
       ·cases h
       ·cases h
       ·simp [sf] at h
      | io h0 h1 h2 h3=>exact absurd rfl (cT _ _)
      | al h0 h8 h1 h2 h3=>rw [hd9] at h8; cases h8
     rw [CQ]; rfl
   rw [Ic] at C3
   exact ih (fun i=>by have:=QT (i+1); rw [List.getElem?_cons_succ] at this; rw [this]; congr 1; omega)
    (fun i=>by have:=QE (i+1); rw [List.getElem?_cons_succ] at this; rw [this]; congr 1; omega) (by simpa using hl) C3
end Go.Soft
namespace Go.Soft
open Go
variable {X:Ctx} {m M:Lk} {γ γ':Gh} {w w':World} {ρ:Operand->Value} {S:St} {δ:Dl}
theorem Tf {c:bP} {args:List Value} (h:c.Ip X S γ w args) {K:List Nat} {O:OM} {w1:World} {f:Cv->Cv} {d:Nat} {res:RC} {v:Value} {ks:List Nat}
  (hr:vS X (entry c.g c.ar.cn c.cP).lk (c.gh X γ w args) K O w1 c.g.rl res v ks) {av:AV} {rs:List (Nat×Row)} {vn:List (Nat×List Cv)} (bV:xD f c.jj c.ar.lM c.g.rl d res=some (av,rs,vn)) :
  ∃ V G,keys G=ks/\et X (c.ar.lM=true) (fun g=>∃ r,r∉K/\MM r (O g)) O w1 rs V G/\(∀ x∈keys rs,x∈res.keys d) /\
   ((vn=[]/\(∀ l,res≠ .np l)/\∀ m' γ',Fits m' γ' rs V->(∀ x v,bu S.lk γ x v->bu m' γ' (f x) v)->bq m' γ' av v) \/
    ∃ (l:List Rc) (cs:List Cv) (cv g:Nat) (cur:Array Value) (e:TypeId),res= .np l/\vn=[(1000+d,cs)]/\av= .c (.pv (1000+d) 0)/\1000<=cv/\v= .pointer (some ⟨g,0,none⟩)/\O g=some (.v cv) /\
     w1.heap[g]? =some (.cells cur e (0,0))/\∀ m' γ',Fits m' γ' rs V->(∀ x v,bu S.lk γ x v->bu m' γ' (f x) v)->cj m' γ' cs cur.toList):=by
 cases res with
 | u =>
  obtain ⟨rfl,rfl⟩:=hr
  simp only [xD,zA,zG] at bV
  obtain ⟨rfl,rfl,rfl⟩:=bV
  exact ⟨[],[],rfl,.nil,by simp [keys],.inl ⟨rfl,by simp,fun _ _ _ _=>⟨[],rfl,.nil⟩⟩⟩
 | c x =>
  simp only [xD] at bV
  cases h1:kV f c.jj c.ar.lM (d*64) (ov c.g.rl) [x] with
  | none=>simp [h1] at bV
  | some p =>
   obtain ⟨cs,rs1⟩:=p
   have Xj:nr X (entry c.g c.ar.cn c.cP).lk (c.gh X γ w args) K O w1 (ov c.g.rl) [x] [v] (ks++[]):= .cons hr .nil
   obtain ⟨V,G,g1,g2,g3,g4⟩:=xM h Xj h1
   simp only [h1] at bV
   revert bV; split
   ·rename_i heq
    simp only [zA,zG] at heq
    obtain ⟨rfl,rfl⟩:=heq
    intro bV
    simp only [zA,zG] at bV
    obtain ⟨rfl,rfl,rfl⟩:=bV
    refine ⟨V,G,by simpa using g1,g2,fun y hy=> ?_,.inl ⟨rfl,by simp,fun m' γ' hF hk=> ?_⟩⟩
    ·have:=g3 y hy
     simp only [RC.keys,zS]
     simp at this; omega
    ·have:=g4 m' γ' hF hk
     cases this with
     | cons hx _=>exact bq.of hx
   ·intro bV; cases bV
 | a l =>
  obtain ⟨us,rfl,hr⟩:=hr
  simp only [xD] at bV
  cases h1:kV f c.jj c.ar.lM (d*64) (ov c.g.rl) l with
  | none=>simp [h1] at bV
  | some p =>
   obtain ⟨cs,rs1⟩:=p
   simp only [h1,zA,zG] at bV
   obtain ⟨rfl,rfl,rfl⟩:=bV
   obtain ⟨V,G,g1,g2,g3,g4⟩:=xM h hr h1
   refine ⟨V,G,g1,g2,fun y hy=> ?_,.inl ⟨rfl,by simp,fun m' γ' hF hk=>⟨us,rfl,g4 m' γ' hF hk⟩⟩⟩
   simp only [RC.keys,qk,ui]; exact g3 y hy
 | t l =>
  obtain ⟨us,rfl,hr⟩:=hr
  simp only [xD] at bV
  cases h1:r7 f c.jj c.ar.lM (d*64) c.g.rl l with
  | none=>simp [h1] at bV
  | some p =>
   obtain ⟨ts,rs1⟩:=p
   simp only [h1,zA,zG] at bV
   obtain ⟨rfl,rfl,rfl⟩:=bV
   obtain ⟨V,G,g1,g2,g3,g4⟩:=OQ h hr h1
   refine ⟨V,G,g1,g2,fun y hy=> ?_,.inl ⟨rfl,by simp,fun m' γ' hF hk=>⟨us,rfl,g4 m' γ' hF hk⟩⟩⟩
   simp only [RC.keys,ui]; exact g3 y hy
 | np l =>
  obtain ⟨cv,g,cur,e,TK,rfl,hO,ng,hr⟩:=hr
  simp only [xD] at bV
  cases h1:kV f c.jj c.ar.lM (d*64) (ov c.g.rl) l with
  | none=>simp [h1] at bV
  | some p =>
   obtain ⟨cs,rs1⟩:=p
   simp only [h1,zA,zG] at bV
   obtain ⟨rfl,rfl,rfl⟩:=bV
   obtain ⟨V,G,g1,g2,g3,g4⟩:=xM h hr h1
   refine ⟨V,G,g1,g2,fun y hy=> ?_,.inr ⟨l,cs,cv,g,cur,e,rfl,rfl,rfl,TK,rfl,hO,ng,g4⟩⟩
   simp only [RC.keys,qk,ui]; exact g3 y hy
theorem yp:∀ {l:List (Nat×Row)},(keys l).Nodup->∀ k,fx (mZ l) k=(lk l k).map some
 | [],_,k=>rfl
 | (j,r)::l,hn,k=>by
  simp only [keys,List.nodup_cons] at hn
  simp only [mZ,fx,yp hn.2,lk]
  cases hj:Nat.beq j k with
  | true =>
   have:=aM hj; subst this
   rw [cL.2 hn.1]; simp
  | false =>
   have:j≠k:=by rintro rfl; rw [Nat.beq_refl] at hj; cases hj
   cases lk l k<;>simp [this]
theorem xj (a b:List (Nat×Row)):mZ (a++b)=mZ a++mZ b:=by
 induction a with
 | nil=>rfl
 | cons p a ih=>obtain ⟨k,r⟩:=p; simp [mZ,ih]
theorem MI (l:List Nat) (k:Nat):fx (BX l) k=if k∈l then some none else none:=by
 induction l with
 | nil=>rfl
 | cons j l ih =>
  simp only [BX,fx,ih,zI]
  by_cases h:k∈l
  ·simp [h]
  ·by_cases hj:j=k
   ·subst hj; simp [h]
   ·simp [h,hj,Ne.symm hj]
theorem Kx (m:Lk):∀ (l:List Nat) (k:Nat),fx (m.TO l) k=if k∈l then (m.r k).map (fun row=>some { row with ow:=3 }) else none
 | [],k=>rfl
 | j::l,k=>by
  have ih:=Kx m l k
  simp only [Lk.TO]
  cases hj:m.r j with
  | none =>
   simp only [ih,zI]
   by_cases h:k∈l
   ·simp [h]
   ·by_cases F6:k=j
    ·subst F6; simp [h,hj]
    ·simp [h,F6]
  | some row =>
   simp only [fx,ih,zI]
   by_cases h:k∈l
   ·simp only [h,if_true,or_true]
    cases hk:m.r k with
    | some r=>rfl
    | none =>
     have:j≠k:=by rintro rfl; rw [hj] at hk; cases hk
     simp [this]
   ·by_cases F6:j=k
    ·subst F6; simp [h,hj]
    ·simp [h,F6,Ne.symm F6]
theorem qg {α:Type} {l:List (Nat×α)} {k:Nat} (h:k∈keys l):∃ v,lk l k=some v:=by
 cases hl:lk l k with
 | some v=>exact ⟨v,rfl⟩
 | none=>exact absurd h (cL.1 hl)
theorem N8 {α:Type} {l:List (Nat×α)} {k:Nat} (h:k∈keys l):∃ v,(k,v)∈l:=by
 obtain ⟨v,hv⟩:=qg h; exact ⟨v,cU hv⟩
theorem n9 {n:Nat}:∀ {l:List Nat},sJ n l=true↔∀ x∈l,x<n
 | []=>by simp [sJ]
 | y::l=>by
  simp only [sJ,zB,n9,zI,forall_eq_or_imp]
  have:Nat.blt y n=true↔y<n:=by
   show Nat.ble (y+1) n=true↔y<n
   exact ⟨fun h=>zQ h,fun h=>Nat.ble_eq_true_of_le h⟩
  rw [this]
theorem KY {f:Cv->Cv} {v key:Nat}:∀ {cs:List Cv} {ms:List Nat} {j j':Nat} {ys:List Ct} {cs':List Cv} {rs:List (Nat×Row)},eC f v j ms cs ys=some (cs',rs)->∀ x∈keys (Ay key ms j' cs),x∈keys rs
 | [],ms,j,j',ys,cs',rs,h,x,hx=>by simp [Ay,keys] at hx
 | c::cs,ms,j,j',ys,cs',rs,h,x,hx=>by
  cases ys with
  | nil=>simp [eC] at h
  | cons y ys =>
   simp only [eC] at h
   cases eL:eC f v (j+1) (tl ms) cs ys with
   | none=>simp [eL] at h
   | some p =>
    obtain ⟨cs2,rs2⟩:=p
    simp only [eL] at h
    have ih:=KY (key:=key) (j':=j'+1) eL
    simp only [Ay,bC,zH] at hx
    rcases hn:hd ms with _ | _ | n
    ·simp only [hn] at h hx
     cases hf:kB y with
     | none=>simp [hf] at h
     | some z =>
      simp only [hf,zA,zG] at h
      rw [← h.2]
      rcases hx with hx | hx
      ·simp [keys] at hx
      ·exact ih x hx
    ·simp only [hn,zA,zG] at h hx
     rw [← h.2]
     rcases hx with hx | hx
     ·simp [keys] at hx
     ·exact ih x hx
    ·simp only [hn] at h hx
     cases y with
     | l τ xs =>
      simp only at h
      cases c with
      | sw r =>
       simp only [zA,zG] at h
       rw [← h.2]
       simp only [keys,zI,List.not_mem_nil,or_false] at hx ⊢
       rcases hx with hx | hx
       ·exact .inl hx
       ·exact .inr (ih x hx)
      | _ =>
       simp only [zA,zG] at h
       rw [← h.2]
       simp only [keys,zI,List.not_mem_nil,or_false,false_or] at hx ⊢
       exact .inr (ih x hx)
     | _=>simp at h
theorem D2 {f:Cv->Cv}:∀ {κ:List Nat} {vl:List (List Nat)} {k:Nat} {vo:List (List Ct)} {vs:List (Nat×List Cv)} {rs:List (Nat×Row)},m.gi f vl κ vo=some (vs,rs)->∀ x∈keys (oR m k vl κ),x∈keys rs
 | [],vl,k,vo,vs,rs,h,x,hx=>by simp [oR,keys] at hx
 | v::κ,vl,k,vo,vs,rs,h,x,hx=>by
  cases vo with
  | nil=>simp [Lk.gi] at h
  | cons l vo =>
   simp only [Lk.gi] at h
   cases hv:m.v v with
   | none=>simp [hv] at h
   | some cs =>
    cases h1:eC f v 0 (ov vl) cs l with
    | none=>simp [hv,h1] at h
    | some p =>
     cases h2:m.gi f (tl vl) κ vo with
     | none=>simp [hv,h1,h2] at h
     | some q =>
      obtain ⟨a1,r1⟩:=p
      obtain ⟨b1,q1⟩:=q
      simp only [hv,h1,h2,zA,zG] at h
      rw [← h.2]
      simp only [oR,hv,bC,zH] at hx ⊢
      rcases hx with hx | hx
      ·exact .inl (KY h1 x hx)
      ·exact .inr (D2 h2 x hx)
theorem Cs:∀ {l:List Nat} {ys:List Ct} {q:List (Nat×Row)},m.nI l ys=some q->keys q=l
 | [],ys,q,h=>by
  cases ys with
  | nil=>simp only [Lk.nI,zA] at h; subst h; rfl
  | cons=>simp [Lk.nI] at h
 | r::l,ys,q,h=>by
  cases ys with
  | nil=>simp [Lk.nI] at h
  | cons y ys =>
   cases y with
   | l τ xs =>
    simp only [Lk.nI] at h
    cases hr:m.r r with
    | none=>simp [hr] at h
    | some row =>
     cases h2:m.nI l ys with
     | none=>simp [hr,h2] at h
     | some q2 =>
      simp only [hr,h2] at h
      revert h; split
      ·intro h; simp only [zA] at h; subst h; simp [keys,Cs h2]
      ·intro h; cases h
   | _=>simp [Lk.nI] at h
def IN (npv:Option (Nat×Nat)) (n:Nat) (vb:Nat->Nat) (k:Nat):Nat:=match npv with | some (_,g)=>if k=n then g else vb k | none=>vb k
def npV (npv:Option (Nat×Nat)) (n k:Nat):Option Ow:=match npv with | some (cv,_)=>if k=cv then some (.v n) else none | none=>none
theorem Tc {c:bP} {args:List Value} (h:c.Ip X S γ w args) {cr:CR} {v:Value} {w1:World} (hp:FE X c.g c.ar.cn c.cP (c.gh X γ w args) w cr v w1) {d:Nat} (hd:d<1500) {av:AV}
  (ha:c.m.after c.g c.jj c.ar cr c.ow d=some (av,δ)):∃ γ',Step X S γ w δ γ' w1/\bq (S.app δ).lk γ' av v:=by
 obtain ⟨O1,ka,kb,kc,EI,Ii,bV,hvo,C3⟩:=hp
 have hf:=h.ok.fact
 have NR:=tF c.jj c.g.am [] 0 c.ar h.ok.args
 simp only [Lk.after] at ha
 obtain ⟨δ0,hδ0⟩:∃ δ0,c.m.WX c.ar cr.res c.ow d=δ0:=⟨_,rfl⟩
 rw [hδ0] at ha
 cases h1:c.m.gi δ0.map c.g.vl c.ar.κ cr.vo with
 | none=>simp [h1] at ha
 | some p1 =>
  obtain ⟨vs,r1⟩:=p1
  cases h2:c.m.nI c.ar.io cr.io with
  | none=>simp [h1,h2] at ha
  | some r2 =>
   cases h3:xD δ0.map c.jj c.ar.lM c.g.rl d cr.res with
   | none=>simp [h1,h2,h3] at ha
   | some p3 =>
    obtain ⟨av',r3,vn⟩:=p3
    simp only [h1,h2,h3] at ha
    cases vy:fC (c.ar.gone++(keys r1++(keys r2++keys r3)))&&sJ 100000 (cr.res.keys d) with
    | false=>simp [vy] at ha
    | true =>
     cases Is:jG c.ar.fz (keys r1++(keys r2++keys r3)) with
     | false=>simp [vy,Is] at ha
     | true =>
      simp only [vy,Is,zA,zG] at ha
      obtain ⟨rfl,hδ⟩:=ha
      simp only [zB] at vy
      obtain ⟨vy,Xg⟩:=vy
      have vy:=gO.1 vy
      have Is:=eT.1 Is
      let K:=ka++(kb++kc)
      let A:Nat->Prop:=fun g=>∃ r,r∉K/\MM r (O1 g)
      obtain ⟨V3,G3,g3,n3,k3,QM⟩:=Tf h bV h3
      obtain ⟨V1,G1,g1,n1,kvs,k1,o1,q1⟩:=JW (I:=c.ar.lM=true) (A:=A) h hvo (fun i=>by simp) rfl h1
      have acD:keys (Gg (c.g.am.drop 0) 0 c.jj)=c.ar.io:=NR.io
      obtain ⟨V2,G2,g2,n2,o2,q2⟩:=PD (I:=c.ar.lM=true) (A:=A) h C3 (fun i=>by simp) (fun i=>by simp) NR.len (by rw [acD]; exact h2)
      let N:=r1++(r2++r3)
      let V:=V1++(V2++V3)
      have hN:et X (c.ar.lM=true) A O1 w1 N V (G1++(G2++G3)):=n1.append (n2.append n3)
      have Tz:keys N=keys r1++(keys r2++keys r3):=by simp only [N,bC]
      have hkV:keys V=keys N:=hN.keys
      have Y5:(keys N).Nodup:=by rw [Tz]; exact (List.nodup_append.1 vy).2.1
      have hgN:∀ k,k∈c.ar.gone->k∉keys N:=fun k hk uZ=>by rw [Tz] at uZ; exact (List.nodup_append.1 vy).2.2 k hk k uZ rfl
      have hfN:∀ k,k∈c.ar.fz->k∉keys N:=fun k hk=>by rw [Tz]; exact Is k hk
      let G:=G1++(G2++G3)
      have hGk:∀ k,k∈keys G↔k∈K:=by
       intro k; simp only [G,K,bC,g1,g2,g3,zH]
       constructor
       ·rintro (h | h | h)
        ·exact .inr (.inl h)
        ·exact .inr (.inr h)
        ·exact .inl h
       ·rintro (h | h | h)
        ·exact .inr (.inr h)
        ·exact .inl h
        ·exact .inr (.inl h)
      have adi:(keys G).Nodup:=by
       simp only [G,bC,g1,g2,g3]
       simp only [List.nodup_append,zH] at Ii ⊢
       obtain ⟨na,⟨nb,nc,nbc⟩,nabc⟩:=Ii
       refine ⟨nb,⟨nc,na,fun x hx y hy e=>nabc y hy x (.inr hx) e.symm⟩,fun x hx y hy e=> ?_⟩
       rcases hy with hy | hy
       ·exact nbc x hx y hy e
       ·exact nabc y hy x (.inl hx) e.symm
      have Ie:δ.map=δ0.map:=by rw [← hδ]; funext x; cases x<;>rfl
      have hvsδ:δ.vs=vs++vn:=by rw [← hδ]
      have lh:δ.kr=c.ar.gone++(c.ow++(cr.res.keys d++c.m.lI c.ar.κ)):=by rw [← hδ,← hδ0]; rfl
      have hke:δ.ke=c.ar.io:=by rw [← hδ,← hδ0]; rfl
      have hkvδ:δ.kv=cr.res.kv d:=by rw [← hδ,← hδ0]; rfl
      have EG:δ.mv=[]:=by rw [← hδ,← hδ0]; rfl
      have Gb:δ.kn=[]:=by rw [← hδ,← hδ0]; rfl
      have AF:∀ k,fx δ.rs k=match lk N k with | some row=>some (some row) | none=>if k∈c.ar.fz then (c.m.r k).map (fun row=>some { row with ow:=3 }) else if k∈c.ar.gone then some none else none:=by
       intro k
       rw [← hδ]
       show fx (BX c.ar.gone++(c.m.TO c.ar.fz++(mZ r1++(mZ r2++mZ r3)))) k=_
       rw [← xj,← xj,iF,iF,yp Y5,Kx,MI]
       cases hl:lk N k with
       | some row=>simp
       | none =>
        simp only [Option.map_none]
        by_cases hk:k∈c.ar.fz
        ·obtain ⟨row,hr,_⟩:=NR.W1 k hk
         simp [hk,hr]
        ·simp [hk]
      obtain ⟨npv,Kj⟩:∃ npv:Option (Nat×Nat),(npv=none->vn=[]/\cr.res.kv d=[]/\∀ m' γ',Fits m' γ' r3 V3->(∀ x v,bu S.lk γ x v->bu m' γ' (δ0.map x) v)->bq m' γ' av' v) /\
        ∀ cv g,npv=some (cv,g)->∃ (cs:List Cv) (cur:Array Value) (e:TypeId),vn=[(1000+d,cs)]/\cr.res.kv d=[1000+d]/\av'= .c (.pv (1000+d) 0)/\1000<=cv/\v= .pointer (some ⟨g,0,none⟩)/\O1 g=some (.v cv) /\
         w1.heap[g]? =some (.cells cur e (0,0))/\∀ m' γ',Fits m' γ' r3 V3->(∀ x v,bu S.lk γ x v->bu m' γ' (δ0.map x) v)->cj m' γ' cs cur.toList:=by
       rcases QM with ⟨Ij,NC,Ww⟩ | ⟨l,cs,cv,g,cur,e,e1,e2,e3,e4,e5,e6,e7,e8⟩
       ·refine ⟨none,fun _=>⟨Ij,?_,Ww⟩,fun _ _ h=>by cases h⟩
        cases LL:cr.res<;>first | rfl | exact absurd LL (NC _)
       ·refine ⟨some (cv,g),fun h=>(by cases h),fun _ _ h=> ?_⟩
        simp only [zA,zG] at h
        obtain ⟨rfl,rfl⟩:=h
        exact ⟨cs,cur,e,e2,by rw [e1]; rfl,e3,e4,e5,e6,e7,e8⟩
      let a:Rb:=⟨fun r=>lk G r,none,fun k=>if k<1000 then (c.ar.κ[k]?).map Ow.v else npV npv (1000+d) k⟩
      let first:Nat->Prop:=fun g=>g<w.heap.size/\(c.O γ g=none\/c.O γ g=some .x)
      have aen:∃ O':OM,(∀ g,first g->O' g=γ.O g)/\∀ g,¬ first g->O' g=(O1 g).bind a.f:=by
       classical
       refine ⟨fun g=>if first g then γ.O g else (O1 g).bind a.f,fun g hg=>if_pos hg,fun g hg=>if_neg hg⟩
      obtain ⟨O',H9,Nz⟩:=aen
      let γ':Gh:=⟨O',fun k=>match lk V k with | some p=>p.1 | none=>γ.rv k,fun k=>match lk V k with | some p=>p.2 | none=>γ.cv k,IN npv (1000+d) γ.vb⟩
      have Qj:∀ k,k∉keys N->lk V k=none:=fun k hk=>cL.2 (by rw [hkV]; exact hk)
      have QA:∀ k,k∉keys N->γ'.rv k=γ.rv k/\γ'.cv k=γ.cv k:=by
       intro k hk
       constructor
       ·show (match lk V k with | some p=>p.1 | none=>γ.rv k)=_; rw [Qj k hk]
       ·show (match lk V k with | some p=>p.2 | none=>γ.cv k)=_; rw [Qj k hk]
      have jg:∀ g,g<w.heap.size->(c.O γ g=none\/c.O γ g=some .fz\/c.O γ g=some .x)->O1 g=c.O γ g/\w1.heap[g]? =w.heap[g]? :=fun g hg ho=>EI.pd g hg ho
      have WI:∀ g,g<w.heap.size->c.O γ g=some .fz->O' g=some .fz:=by
       intro g hg ho
       have Wd:¬ first g:=by rintro ⟨_,h | h⟩<;>rw [ho] at h<;>cases h
       rw [Nz g Wd,(jg g hg (.inr (.inl ho))).1,ho]; rfl
      have NX:∀ g,c.O γ g=(γ.O g).bind c.rb.f:=fun _=>rfl
      have Y7:∀ k row,S.lk.r k=some row->lk c.H k=none->k∉c.ar.fz->cX X O' w1 k row (γ.rv k) (γ.cv k):=by
       intro k row hk hH hkf
       have hor:c.rb.r k=none\/c.rb.r k=some (0,1):=by
        simp only [bP.rb,hH,if_neg hkf]
        split
        ·exact .inr rfl
        ·exact .inl rfl
       have htn:∀ x,(∃ e c',x=Ow.n k e c')\/x= .r k->c.rb.f x=none\/c.rb.f x=some .x:=by
        rintro x (⟨e,c',rfl⟩ | rfl)
        ·rcases hor with h | h<;>simp only [Rb.f,h]
         ·exact .inr rfl
         ·exact .inl rfl
        ·rcases hor with h | h<;>simp only [Rb.f,h]
         ·exact .inr rfl
         ·exact .inl rfl
       refine Hf (h.rel.rs k row hk) fun g o hg hi=> ?_
       have fW:=b9 hg
       rcases x9 hi with h0 | h0 | ⟨h0,_⟩ | ⟨e,c',h0,_⟩
       ·have nL:c.O γ g=none:=by rw [NX,h0]; rfl
        exact ⟨((jg g fW (.inl nL)).2).trans hg,H9 g ⟨fW,.inl nL⟩⟩
       ·have nL:c.O γ g=some .fz:=by rw [NX,h0]; rfl
        exact ⟨((jg g fW (.inr (.inl nL))).2).trans hg,by rw [WI g fW nL,h0]⟩
       ·have nL:c.O γ g=none\/c.O γ g=some .x:=by rw [NX,h0]; exact htn _ (.inr rfl)
        exact ⟨((jg g fW (nL.elim .inl fun h=> .inr (.inr h))).2).trans hg,H9 g ⟨fW,nL⟩⟩
       ·have nL:c.O γ g=none\/c.O γ g=some .x:=by rw [NX,h0]; exact htn _ (.inl ⟨e,c',rfl⟩)
        exact ⟨((jg g fW (nL.elim .inl fun h=> .inr (.inr h))).2).trans hg,H9 g ⟨fW,nL⟩⟩
      have Zt:∀ {r ow:Nat} {o:Option Ow},(ow=3\/ow=4\/ow=5)->R9 r ow o->o=some .fz\/(o=some (.r r)/\eG ow=true)\/∃ e c,o=some (.n r e c)/\ow=5:=by
       intro r ow o ho hi
       rcases x9 hi with h0 | h0 | h0 | h0
       ·exfalso; subst h0
        rcases hi with h | ⟨e,c',h⟩<;>rcases ho with rfl | rfl | rfl<;>cases h
       ·exact .inl h0
       ·exact .inr (.inl h0)
       ·exact .inr (.inr h0)
      have ad7:∀ k row,k∈c.ar.fz->c.m.r k=some row->cX X O' w1 k { row with ow:=3 } (γ.rv k) (γ.cv k):=by
       intro k row hk hr
       obtain ⟨row2,fU,hle⟩:=NR.W1 k hk
       rw [hr] at fU; cases fU
       have ho:row.ow=3\/row.ow=4\/row.ow=5:=by
        rcases qT hle with h | ⟨h,_⟩ | ⟨_,h⟩ | ⟨h,_⟩ | ⟨h,_⟩<;>first | exact h | cases h
       have:=(h.rel.rs k row (h.le.r _ _ hr)).relabel (a:=c.rb) (O':=O') (w':=w1) (fun _=>hf.fz k hk) hle (fun g o hg hi=>by
        have fW:=b9 hg
        have nL:c.O γ g=some .fz:=by
         rw [NX]
         rcases Zt ho hi with h0 | ⟨h0,_⟩ | ⟨e,c',h0,_⟩<;>rw [h0]
         ·rfl
         ·show c.rb.f (.r k)=_; simp only [Rb.f,hf.fz k hk]; rfl
         ·show c.rb.f (.n k e c')=_; simp only [Rb.f,hf.fz k hk]; rfl
        exact ⟨((jg g fW (.inr (.inl nL))).2).trans hg,by rw [WI g fW nL,← NX,nL]⟩)
       exact ⟨this.top,this.rU⟩
      have rT:=hN.row (a:=a) (O':=O') (fun p hp=>gA adi hp) (fun g o r ow hg ho hi=>by
        refine Nz g fun Ge=> ?_
        have h1:=(jg g Ge.1 (Ge.2.elim .inl fun h=> .inr (.inr h))).1
        rcases Zt ho hi with h0 | ⟨h0,_⟩ | ⟨e,c',h0,_⟩<;>rw [h1] at h0<;>rcases Ge.2 with h2 | h2<;>rw [h2] at h0<;>cases h0)
       (fun TF g o hg hA=>by
        obtain ⟨r,hrK,Wx⟩:=hA
        have Zn:c.O γ g=none->γ.O g=none:=by
         intro nL
         cases Nw:γ.O g with
         | none=>rfl
         | some x =>
          exfalso
          rw [NX,Nw] at nL
          have nL:c.rb.f x=none:=nL
          have hκ:c.ar.κ=[]:=NR.X4 TF
          have Wm:c.b=[]:=by
           have hh:=h.ok.hand
           simp only [Lk.te,hκ,Lk.eQ] at hh
           revert hh; split
           ·intro hh; simp only [zA,zG] at hh; exact hh.2.symm
           ·intro hh; cases hh
          have Lu:∀ k,c.rb.r k=none\/∃ p,c.rb.r k=some p/\(p.2=3\/p.2=4\/p.2=5):=by
           intro k
           simp only [bP.rb]
           cases hl:lk c.H k with
           | some p =>
            right; refine ⟨p,rfl,?_⟩
            have hm:=cU hl
            simp only [bP.H,zH] at hm
            rcases hm with hm | hm | hm
            ·have:∀ (am:List Nat) (P:Nat) (l:List AV) (x:Nat×(Nat×Nat)),x∈u4 am P l->x.2.2=4\/x.2.2=5:=by
              intro am P l
              induction l generalizing am P with
              | nil=>intro x hx; simp [u4] at hx
              | cons v l ih =>
               intro x hx
               simp only [u4,zH] at hx
               rcases hx with hx | hx
               ·have je:∀ (key dd:Nat) (cs:List Cv) (j:Nat) (x:Nat×(Nat×Nat)),x∈v8 key dd j cs->x.2.2=dd:=by
                 intro key dd cs
                 induction cs with
                 | nil=>intro j x hx; simp [v8] at hx
                 | cons cc cs ih2 =>
                  intro j x hx
                  cases cc<;>simp only [v8,zI] at hx<;>first | exact ih2 _ _ hx | (rcases hx with rfl | hx; rfl; exact ih2 _ _ hx)
                revert hx; split
                ·rename_i h45
                 intro hx
                 have:=je _ _ _ _ _ hx
                 revert h45; unfold IB; split
                 ·rename_i h4; exact fun _=> .inl (this.trans h4)
                 ·rename_i h5; exact fun _=> .inr (this.trans h5)
                 ·simp
                ·intro hx; simp at hx
               ·exact ih _ _ x hx
             rcases this _ _ _ _ hm with h | h
             ·exact .inr (.inl h)
             ·exact .inr (.inr h)
            ·rw [hκ] at hm; simp [oR] at hm
            ·have:∀ (am:List Nat) (P:Nat) (l:List AV) (x:Nat×(Nat×Nat)),x∈Gg am P l->x.2.2=5:=by
              intro am P l
              induction l generalizing am P with
              | nil=>intro x hx; simp [Gg] at hx
              | cons v l ih =>
               intro x hx
               simp only [Gg,zH] at hx
               rcases hx with hx | hx
               ·have je:∀ (key dd:Nat) (cs:List Cv) (j:Nat) (x:Nat×(Nat×Nat)),x∈v8 key dd j cs->x.2.2=dd:=by
                 intro key dd cs
                 induction cs with
                 | nil=>intro j x hx; simp [v8] at hx
                 | cons cc cs ih2 =>
                  intro j x hx
                  cases cc<;>simp only [v8,zI] at hx<;>first | exact ih2 _ _ hx | (rcases hx with rfl | hx; rfl; exact ih2 _ _ hx)
                revert hx; split
                ·intro hx; exact je _ _ _ _ _ hx
                ·intro hx; simp at hx
               ·exact ih _ _ x hx
             exact .inr (.inr (this _ _ _ _ hm))
           | none =>
            simp only
            split
            ·exact .inr ⟨_,rfl,.inl rfl⟩
            ·left
             rw [if_neg]
             rintro ⟨hb,row,hr,ho⟩
             rcases hb with hb | hb
             ·rw [NR.Ym TF k hb row hr] at ho; cases ho
             ·rw [Wm] at hb; cases hb
          cases x with
          | fz=>cases nL
          | x=>cases nL
          | v k =>
           simp only [Rb.f,bP.rb] at nL
           split at nL<;>cases nL
          | r k =>
           rcases Lu k with h0 | ⟨p,h0,h5⟩<;>simp only [Rb.f,h0] at nL
           ·cases nL
           ·obtain ⟨p1,p2⟩:=p
            rcases h5 with h | h | h<;>simp only at h<;>subst h<;>cases nL
          | n k e c' =>
           rcases Lu k with h0 | ⟨p,h0,h5⟩<;>simp only [Rb.f,h0] at nL
           ·cases nL
           ·obtain ⟨p1,p2⟩:=p
            rcases h5 with h | h | h<;>simp only at h<;>subst h<;>cases nL
        by_cases Ge:first g
        ·have h1:=(jg g Ge.1 (Ge.2.elim .inl fun h=> .inr (.inr h))).1
         rw [H9 g Ge]
         rcases Ge.2 with h2 | h2
         ·exact .inl (Zn h2)
         ·exfalso; rw [h1,h2] at Wx
          rcases Wx with h | h | h | ⟨_,_,h⟩<;>cases h
        ·rw [Nz g Ge]
         have ZS:lk G r=none:=cL.2 fun hk=>hrK ((hGk r).1 hk)
         rcases Wx with h | h | h | ⟨e,c',h⟩<;>rw [h]
         ·exact .inl rfl
         ·exact .inr rfl
         ·left; show a.f (.r r)=none; simp only [Rb.f,a,ZS]
         ·left; show a.f (.n r e c')=none; simp only [Rb.f,a,ZS])
      have Tv:keys r2=c.ar.io:=Cs h2
      have ada:∀ x∈c.ow,x∈keys r1:=fun x hx=>D2 (k:=0) h1 x (by rw [h.ok.own.1]; exact hx)
      have Q5:∀ r,cp r δ.kr=false->r∉c.ar.gone/\r∉c.ow/\r∉cr.res.keys d/\r∉c.m.lI c.ar.κ:=by
       intro r hr
       have hr:r∉δ.kr:=fun hm=>by rw [ft.2 hm] at hr; cases hr
       rw [lh] at hr
       simp only [zH,not_or] at hr
       exact hr
      have hNk:∀ r,r∈keys N->cp r δ.kr=false->r∈c.ar.io:=by
       intro r hr hk
       obtain ⟨_,k2,k3',k4⟩:=Q5 r hk
       rw [Tz] at hr
       simp only [zH] at hr
       rcases hr with hr | hr | hr
       ·rcases k1 r hr with ⟨h,_⟩ | h
        ·exact absurd h k2
        ·exact absurd h k4
       ·rw [← Tv]; exact hr
       ·exact absurd (k3 r hr) k3'
      have hV2:∀ r,r∈keys r2->γ'.rv r=γ.rv r:=by
       intro r hr
       obtain ⟨p,hp⟩:=qg (l:=V) (k:=r) (by rw [hkV,Tz]; simp [hr])
       show (match lk V r with | some p=>p.1 | none=>γ.rv r)=_
       rw [hp]
       have hm:=cU hp
       have Y4:=(List.nodup_append.1 vy).2.1
       simp only [V,zH] at hm
       rcases hm with hm | hm | hm
       ·have:=mem_keys hm
        rw [n1.keys] at this
        exact absurd rfl ((List.nodup_append.1 Y4).2.2 r this r (by simp [hr]))
       ·exact q2 r p.1 p.2 hm
       ·have:=mem_keys hm
        rw [n3.keys] at this
        exact absurd rfl ((List.nodup_append.1 (List.nodup_append.1 Y4).2.1).2.2 r hr r this)
      have ac8:∀ r,r∉keys N->lk N r=none:=fun r hr=>cL.2 hr
      have QO:∀ r row,S.lk.r r=some row->cp r δ.kr=false->r∉c.ar.io->∃ row',(S.app δ).lk.r r=some row'/\row'.τ=row.τ/\row'.xs.length=row.xs.length/\∀ e,row'.cs e=row.cs e:=by
       intro r row hr hk hi
       have hrN:r∉keys N:=fun hm=>hi (hNk r hm hk)
       rw [kT,AF,ac8 r hrN]
       by_cases hz:r∈c.ar.fz
       ·obtain ⟨row2,fU,_⟩:=NR.W1 r hz
        have:=h.le.r r row2 fU
        rw [hr] at this; cases this
        simp only [hz,if_true,fU,Option.map_some]
        exact ⟨_,rfl,rfl,rfl,fun _=>rfl⟩
       ·simp only [hz,(Q5 r hk).1,if_false]
        exact ⟨row,hr,rfl,rfl,fun _=>rfl⟩
      have Gp:∀ k,(npv=none\/k≠1000+d)->γ'.vb k=γ.vb k:=by
       intro k hk
       show IN npv (1000+d) γ.vb k=_
       rcases hk with hk | hk
       ·rw [hk]; rfl
       ·cases Iy:npv with
        | none=>rfl
        | some p=>simp only [IN,if_neg hk]
      have qv:∀ x v,bu S.lk γ x v->bu (S.app δ).lk γ' (δ.map x) v:=by
       refine mL h.rel EG (fun r row hr hk=> ?_) (fun r row row' hr hk Qm cC=> ?_) (fun r hk Qm _=>⟨fun row row' hr cC=> ?_⟩) (fun k cs hk Zr=>⟨?_,?_⟩)
       ·by_cases hi:r∈c.ar.io
        ·obtain ⟨row',cC⟩:=qg (l:=N) (k:=r) (by rw [Tz,Tv]; simp [hi])
         exact ⟨⟨row',by rw [kT,AF,cC]⟩,hV2 r (by rw [Tv]; exact hi)⟩
        ·obtain ⟨row',h1,_⟩:=QO r row hr hk hi
         exact ⟨⟨row',h1⟩,(QA r (fun hm=>hi (hNk r hm hk))).1⟩
       ·have hi:r∉c.ar.io:=fun hm=>by rw [← hke] at hm; rw [ft.2 hm] at Qm; cases Qm
        obtain ⟨row2,h1,h2,h3,_⟩:=QO r row hr hk hi
        rw [cC] at h1; cases h1
        exact ⟨h2,by omega⟩
       ·have hi:r∉c.ar.io:=fun hm=>by rw [← hke] at hm; rw [ft.2 hm] at Qm; cases Qm
        obtain ⟨row2,h1,h2,h3,h4⟩:=QO r row hr hk hi
        rw [cC] at h1; cases h1
        intro e c' τ ys _ hc
        exact ⟨⟨ys,by rw [h4]; exact hc,Nat.le_refl _⟩,by rw [(QA r (fun hm=>hi (hNk r hm hk))).2]⟩
       ·rw [o8]
        cases fx δ.vs k with
        | some cs'=>exact ⟨cs',rfl⟩
        | none=>simp only [hk,Option.map_some]; exact ⟨_,rfl⟩
       ·refine Gp k ?_
        cases Iy:npv with
        | none=>exact .inl rfl
        | some p =>
         right
         obtain ⟨cv,g⟩:=p
         obtain ⟨cs',cur,e,_,e2,_⟩:=Kj.2 cv g Iy
         rw [hkvδ,e2] at Zr
         exact Kt.1 Zr
      have Y8:∀ k row,(S.app δ).lk.r k=some row->cX X O' w1 k row (γ'.rv k) (γ'.cv k):=by
       intro k row hk
       rw [kT,AF] at hk
       cases hl:lk N k with
       | some row2 =>
        simp only [hl] at hk; cases hk
        obtain ⟨v',cs',h1,h2⟩:=rT k row hl
        have e1:γ'.rv k=v':=by show (match lk V k with | some p=>p.1 | none=>γ.rv k)=_; rw [h1]
        have e2:γ'.cv k=cs':=by show (match lk V k with | some p=>p.2 | none=>γ.cv k)=_; rw [h1]
        rw [e1,e2]; exact h2
       | none =>
        simp only [hl] at hk
        have Wb:k∉keys N:=cL.1 hl
        obtain ⟨e1,e2⟩:=QA k Wb
        rw [e1,e2]
        by_cases hz:k∈c.ar.fz
        ·obtain ⟨row2,fU,_⟩:=NR.W1 k hz
         simp only [hz,if_true,fU,Option.map_some,zA] at hk
         subst hk
         exact ad7 k row2 hz fU
        ·by_cases hg:k∈c.ar.gone
         ·simp only [hz,hg,if_true,if_false] at hk; cases hk
         ·simp only [hz,hg,if_false] at hk
          refine Y7 k row hk ?_ hz
          rw [cL,hf.kH]
          simp only [zH,not_or]
          refine ⟨hg,fun hm=>Wb ?_,fun hm=>Wb ?_⟩
          ·rw [Tz]; simp [ada k hm]
          ·rw [Tz,Tv]; simp [hm]
      have Rd:Fits (S.app δ).lk γ' N V:=by
       refine ⟨fun k row hm=> ?_,fun k v' cs' hm=> ?_⟩
       ·obtain ⟨row',cC⟩:=pb hm
        exact ⟨row',by rw [kT,AF,cC]⟩
       ·show (match lk V k with | some p=>p.1 | none=>γ.rv k)=_
        rw [gA (by rw [hkV]; exact Y5) hm]
      have keep0:∀ x v,bu S.lk γ x v->bu (S.app δ).lk γ' (δ0.map x) v:=by rw [← Ie]; exact qv
      have hκn:c.ar.κ.Nodup:=NR.nd (by simp)
      have hlkZ_mem:∀ (l:List (Nat×List Cv)) (k:Nat),(∀ cs,fx l k=some cs->(k,cs)∈l)/\(fx l k=none->k∉keys l):=by
       intro l k
       induction l with
       | nil=>exact ⟨fun cs h=>by simp [fx] at h,fun _=>by simp [keys]⟩
       | cons p l ih =>
        obtain ⟨j,u⟩:=p
        simp only [fx,keys,zI]
        cases hl:fx l k with
        | some cs' =>
         exact ⟨fun cs h=>by simp only [zA] at h; subst h; exact .inr (ih.1 _ hl),fun h=>by cases h⟩
        | none =>
         refine ⟨fun cs h=> ?_,fun h=> ?_⟩
         ·by_cases hj:j=k
          ·simp only [hj,if_true,zA] at h; subst h; subst hj; simp
          ·simp only [hj,if_false] at h; cases h
         ·by_cases hj:j=k
          ·simp [hj] at h
          ·simp [Ne.symm hj,ih.2 hl]
      refine ⟨γ',⟨⟨fun k cs hk=> ?_,Y8⟩,qv,⟨EI.os,EI.tape,EI.output,EI.size,fun g hg ho=> ?_,fun g hg=> ?_⟩,fun k row hk _=> ?_,fun k row hk Iw=> ?_,fun k Iw J8=> ?_,fun k hk=> ?_,fun k cs hk hz=> ?_⟩,?_⟩
      ·
       rw [o8,hvsδ] at hk
       have sA:fx (vs++vn) k=none->(S.lk.v k).map (List.map δ.map)=some cs->O' (γ'.vb k)=some (.v k)/\∃ cur e,w1.heap[γ'.vb k]? =some (.cells cur e (0,0))/\cj (S.app δ).lk γ' cs cur.toList:=by
        intro hz hk
        cases hc:S.lk.v k with
        | none=>simp [hc] at hk
        | some cs0 =>
         simp only [hc,Option.map_some,zA] at hk; subst hk
         obtain ⟨hO,cur,e,ng,CO⟩:=h.rel.vs k cs0 hc
         rw [iF] at hz
         have Wz:fx vn k=none:=by revert hz; cases fx vn k<;>simp
         have YE:fx vs k=none:=by rw [Wz] at hz; exact hz
         have hkκ:k∉c.ar.κ:=by rw [← kvs]; exact (hlkZ_mem vs k).2 YE
         have adF:γ'.vb k=γ.vb k:=by
          refine Gp k ?_
          cases Iy:npv with
          | none=>exact .inl rfl
          | some p =>
           right
           obtain ⟨cv,g⟩:=p
           obtain ⟨cs',cur',e',e1,_⟩:=Kj.2 cv g Iy
           rintro rfl
           rw [e1] at Wz; simp [fx] at Wz
         rw [adF]
         have fW:=b9 ng
         have hx:c.O γ (γ.vb k)=some .x:=by
          rw [NX,hO]
          show c.rb.f (.v k)=_
          have:nz k 0 c.ar.κ=none:=by
           cases hi:nz k 0 c.ar.κ with
           | none=>rfl
           | some i=>exact absurd (List.mem_of_getElem? (sR hi).2) hkκ
          simp only [Rb.f,bP.rb,this]
         exact ⟨by rw [H9 _ ⟨fW,.inr hx⟩,hO],cur,e,((jg _ fW (.inr (.inr hx))).2).trans ng,CO.map qv⟩
       cases hz:fx (vs++vn) k with
       | none=>rw [hz] at hk; exact sA hz hk
       | some cs1 =>
        rw [hz] at hk; simp only [zA] at hk; subst hk
        have given:fx vs k=some cs1->(npv=none\/k≠1000+d)->O' (γ'.vb k)=some (.v k)/\∃ cur e,w1.heap[γ'.vb k]? =some (.cells cur e (0,0))/\cj (S.app δ).lk γ' cs1 cur.toList:=by
         intro YE Qo
         obtain ⟨i,cur,e,hi,hO,ng,CO⟩:=q1 (S.app δ).lk γ' Rd.left keep0 k cs1 ((hlkZ_mem vs k).1 _ YE)
         rw [Gp k Qo]
         have Wd:¬ first (γ.vb k):=by
          intro Ge
          have h1:=(jg _ Ge.1 (Ge.2.elim .inl fun h=> .inr (.inr h))).1
          rw [hO] at h1
          rcases Ge.2 with h2 | h2<;>rw [h2] at h1<;>cases h1
         have Am:i<1000:=by have:=(zU.1 hi).1; have:=h.ok.abu; omega
         refine ⟨?_,cur,e,ng,CO⟩
         rw [Nz _ Wd,hO]
         show a.f (.v i)=_
         simp only [Rb.f,a,if_pos Am,hi,Option.map_some]
        cases Iy:npv with
        | none =>
         rw [(Kj.1 Iy).1,List.append_nil] at hz
         exact given hz (.inl Iy)
        | some p =>
         obtain ⟨cv,g⟩:=p
         obtain ⟨cs',cur,e,e1,e2,e3,e4,e5,e6,e7,e8⟩:=Kj.2 cv g Iy
         by_cases wq:k=1000+d
         ·subst wq
          rw [e1,iF] at hz
          simp only [fx,if_true,zA] at hz; subst hz
          have aef:γ'.vb (1000+d)=g:=by
           show IN npv (1000+d) γ.vb (1000+d)=_
           rw [Iy]; simp [IN]
          rw [aef]
          have Wd:¬ first g:=by
           intro Ge
           have h1:=(jg _ Ge.1 (Ge.2.elim .inl fun h=> .inr (.inr h))).1
           rw [e6] at h1
           rcases Ge.2 with h2 | h2<;>rw [h2] at h1<;>cases h1
          refine ⟨?_,cur,e,e7,e8 _ _ Rd.right.right keep0⟩
          show O' g=_
          rw [Nz _ Wd,e6]
          show a.f (.v cv)=_
          simp only [Rb.f,a,if_neg (show ¬ cv<1000 by omega),Iy,npV,if_true]
         ·rw [e1,iF] at hz
          simp only [fx,if_neg (Ne.symm wq)] at hz
          exact given hz (.inr wq)
      ·
       rcases ho with ho | ho | ho
       ·have nL:c.O γ g=none:=by rw [NX,ho]; rfl
        exact ⟨H9 g ⟨hg,.inl nL⟩,(jg g hg (.inl nL)).2⟩
       ·have nL:c.O γ g=some .fz:=by rw [NX,ho]; rfl
        exact ⟨by rw [ho]; exact WI g hg nL,(jg g hg (.inr (.inl nL))).2⟩
       ·have nL:c.O γ g=some .x:=by rw [NX,ho]; rfl
        exact ⟨H9 g ⟨hg,.inr nL⟩,(jg g hg (.inr (.inr nL))).2⟩
      ·show O' g=none
       have Wd:¬ first g:=fun Ge=>by have:=EI.size; have:=Ge.1; omega
       rw [Nz g Wd,EI.top g hg]; rfl
      ·refine QA k fun hm=> ?_
       obtain ⟨row',cC⟩:=qg hm
       rw [AF,cC] at hk; cases hk
      ·rw [AF] at hk
       cases hl:lk N k with
       | some row2 =>
        simp only [hl,zA] at hk; subst hk
        have hm:=cU hl
        simp only [N,zH] at hm
        rcases hm with hm | hm | hm
        ·have:=o1 _ hm; rw [Iw] at this; simp [sf] at this
        ·have:=o2 _ hm; rw [Iw] at this; cases this
        ·exact n9.1 Xg k (k3 k (mem_keys hm))
       | none =>
        simp only [hl] at hk
        by_cases hz:k∈c.ar.fz
        ·obtain ⟨row2,fU,_⟩:=NR.W1 k hz
         simp only [hz,if_true,fU,Option.map_some,zA] at hk
         subst hk; cases Iw
        ·simp only [hz,if_false] at hk
         split at hk<;>cases hk
      ·by_cases hm:k∈keys N
       ·rw [Tz] at hm
        simp only [zH] at hm
        rcases hm with hm | hm | hm
        ·rcases k1 k hm with ⟨_,hni⟩ | hh
         ·exact absurd ⟨Iw,J8⟩ (H7 hni)
         ·have:=BT hh; omega
        ·exact hV2 k hm
        ·have:=n9.1 Xg k (k3 k hm); omega
       ·exact (QA k hm).1
      ·exact Gp k (.inr (by omega))
      ·rw [hvsδ,iF] at hz
       have Wz:fx vn k=none:=by revert hz; cases fx vn k<;>simp
       have YE:fx vs k=none:=by rw [Wz] at hz; exact hz
       have hkκ:k∉c.ar.κ:=by rw [← kvs]; exact (hlkZ_mem vs k).2 YE
       obtain ⟨hO,cur,e,ng,_⟩:=h.rel.vs k cs hk
       have fW:=b9 ng
       have hx:c.O γ (γ.vb k)=some .x:=by
        rw [NX,hO]
        show c.rb.f (.v k)=_
        have:nz k 0 c.ar.κ=none:=by
         cases hi:nz k 0 c.ar.κ with
         | none=>rfl
         | some i=>exact absurd (List.mem_of_getElem? (sR hi).2) hkκ
        simp only [Rb.f,bP.rb,this]
       refine ⟨Gp k ?_,by show O' _=_; rw [H9 _ ⟨fW,.inr hx⟩,hO],(jg _ fW (.inr (.inr hx))).2⟩
       cases Iy:npv with
       | none=>exact .inl rfl
       | some p =>
        right
        obtain ⟨cv,g⟩:=p
        obtain ⟨cs',cur',e',e1,_⟩:=Kj.2 cv g Iy
        rintro rfl
        rw [e1] at Wz; simp [fx] at Wz
      ·cases Iy:npv with
       | none=>exact (Kj.1 Iy).2.2 _ _ Rd.right.right keep0
       | some p =>
        obtain ⟨cv,g⟩:=p
        obtain ⟨cs',cur,e,e1,e2,e3,e4,e5,e6,e7,e8⟩:=Kj.2 cv g Iy
        rw [e3]
        refine ⟨⟨cs',by rw [o8,hvsδ,e1,iF]; simp [fx]⟩,?_⟩
        rw [e5]
        show _=Value.pointer (some ⟨IN npv (1000+d) γ.vb (1000+d),0,none⟩)
        rw [Iy]; simp [IN]
end Go.Soft
namespace Go.Soft
open Go
variable {X:Ctx} {R:Type} {E:Env R} {L:Live} {lp:Loop R}
theorem gD.none {α:Type}:gD (fun _:α->Option R=>Option.none):=⟨Option.none,fun _=>rfl⟩
theorem gD.one {α:Type} (x:α):gD (fun k:α->Option R=>k x):=⟨some x,fun _=>rfl⟩
theorem gD.map {α β:Type} {T:(α->Option R)->Option R} (h:gD T) (f:α->β):gD (fun k:β->Option R=>T fun x=>k (f x)):=by
 obtain ⟨o,ho⟩:=h
 refine ⟨o.map f,fun k=> ?_⟩
 show T _=_
 rw [ho]; cases o<;>rfl
theorem gD.bind {α β:Type} {T:(α->Option R)->Option R} (h:gD T) {F:α->(β->Option R)->Option R} (hF:∀ x,gD (F x)):gD (fun k=>T fun x=>F x k):=by
 obtain ⟨o,ho⟩:=h
 cases o with
 | none=>exact ⟨Option.none,fun k=>by show T _=_; rw [ho]; rfl⟩
 | some x=>obtain ⟨o',NI⟩:=hF x; exact ⟨o',fun k=>by show T _=_; rw [ho]; exact NI k⟩
theorem gD.aK {α:Type} {T:(α->Option R)->Option R} (h:gD T) (c:Bool):gD (fun k=>Soft.aK c (T k)):=by
 cases c with
 | true=>exact h
 | false=>exact gD.none
theorem FP {q:Bool} {x y z:Ct} (h:Of q x y=some z):z=bif q then x else y:=by
 revert h; unfold Of; split
 ·intro h; cases h; cases q<;>rfl
 ·intro h; cases h; cases q<;>rfl
 ·split
  ·rename_i hk
   intro h; cases h
   rw [rz hk]; cases q<;>rfl
  ·intro h; cases h
 ·intro h; cases h; cases q<;>rfl
 ·rename_i τ x σ y
  cases ha:AW σ τ [] y with
  | none=>intro h; cases h
  | some z' =>
   intro h; cases h
   obtain ⟨e,hz⟩:=CJ ha
   subst e
   cases q
   ·show Ct.l _ z'=Ct.l _ y; rw [hz]; rfl
   ·rfl
 ·intro h; cases h
theorem Bd {q:Bool}:∀ {x y z:List Ct},Hk q x y=some z->z=bif q then x else y
 | [],[],z,h=>by cases h; cases q<;>rfl
 | [],_::_,_,h=>by cases h
 | _::_,[],_,h=>by cases h
 | a::l,b::m,z,h=>by
  simp only [Hk] at h
  revert h; split
  ·rename_i u v h1 h2
   intro h; cases h
   rw [FP h1,Bd h2]; cases q<;>rfl
  ·intro h; cases h
theorem Gq {q:Bool}:∀ {x y z:List (List Ct)},Lp q x y=some z->z=bif q then x else y
 | [],[],z,h=>by cases h; cases q<;>rfl
 | [],_::_,_,h=>by cases h
 | _::_,[],_,h=>by cases h
 | a::l,b::m,z,h=>by
  simp only [Lp] at h
  revert h; split
  ·rename_i u v h1 h2
   intro h; cases h
   rw [Bd h1,Gq h2]; cases q<;>rfl
  ·intro h; cases h
theorem GC {q:Bool} {x y z:Rc} (h:K6 q x y=some z):z=bif q then x else y:=by
 revert h; unfold K6; split
 ·split
  ·rename_i h1; intro h; cases h; rw [FP h1]; cases q<;>rfl
  ·intro h; cases h
 ·split
  ·rename_i h1; intro h; cases h; rw [FP h1]; cases q<;>rfl
  ·intro h; cases h
 ·intro h; cases h; cases q<;>rfl
 ·intro h; cases h
theorem x7 {q:Bool}:∀ {x y z:List Rc},Bg q x y=some z->z=bif q then x else y
 | [],[],z,h=>by cases h; cases q<;>rfl
 | [],_::_,_,h=>by cases h
 | _::_,[],_,h=>by cases h
 | a::l,b::m,z,h=>by
  simp only [Bg] at h
  revert h; split
  ·rename_i u v h1 h2
   intro h; cases h
   rw [GC h1,x7 h2]; cases q<;>rfl
  ·intro h; cases h
theorem Ek {q:Bool}:∀ {x y z:List (Bool×List Rc)},EO q x y=some z->z=bif q then x else y
 | [],[],z,h=>by cases h; cases q<;>rfl
 | [],_::_,_,h=>by cases h
 | _::_,[],_,h=>by cases h
 | (b,x)::l,(c,y)::m,z,h=>by
  simp only [EO] at h
  revert h; split
  ·rename_i u v h0 h1 h2
   have hbc:b=c:=by revert h0; cases b<;>cases c<;>simp
   subst hbc
   intro h; cases h
   rw [x7 h1,Ek h2]; cases q<;>rfl
  ·intro h; cases h
theorem Pg {q:Bool} {x y z:RC} (h:OV q x y=some z):z=bif q then x else y:=by
 revert h; unfold OV; split
 ·intro h; cases h; cases q<;>rfl
 ·split
  ·rename_i h1; intro h; cases h; rw [GC h1]; cases q<;>rfl
  ·intro h; cases h
 ·split
  ·rename_i h1; intro h; cases h; rw [x7 h1]; cases q<;>rfl
  ·intro h; cases h
 ·split
  ·rename_i h1; intro h; cases h; rw [Ek h1]; cases q<;>rfl
  ·intro h; cases h
 ·intro h; cases h
theorem RJ {q:Bool} {x y z:CR} (h:Jz q x y=some z):z=bif q then x else y:=by
 revert h; unfold Jz; split
 ·rename_i h1 h2 h3
  intro h; cases h
  rw [Pg h1,Gq h2,Bd h3]; cases q<;>rfl
 ·intro h; cases h
theorem gD.Em {α:Type} {f:(CR->Option R)->Option R} (hf:gD f) (p:List (Nat×Bool)) (q:Bool) (d:CR) {F:CR->(α->Option R)->Option R} (hF:∀ x,gD (F x)):gD (fun k=>Soft.Em p q f d fun x=>F x k):=by
 cases p with
 | nil=>exact hf.bind hF
 | cons a p =>
  exact hf.bind (F:=fun cr k=>match Jz q cr d with | some c=>F c k | Option.none=>Option.none) fun cr=>by
   cases Jz q cr d with
   | none=>exact gD.none
   | some c=>exact hF c
theorem tT (hE:∀ f cn cP,gD (E.fn f cn cP)) (ops:Array Oper) (s:St) (o:Oper) :
  gD (fun k:List (Nat×Bool)×Bool×AV×Dl->Option R=>BV X E ops s o fun p q v δ=>k (p,q,v,δ)):=by
 simp only [BV]
 cases hg:yE ops s o.guard with
 | none=>exact gD.none
 | some pq =>
  obtain ⟨p,q⟩:=pq
  simp only
  split
  ·split
   ·split
    ·exact gD.none
    ·split
     ·exact gD.none
     ·split
      ·refine gD.Em (hE _ _ _) _ _ _ fun cr=> ?_
       split
       ·exact gD.none
       ·split
        ·exact gD.one _
        ·exact gD.none
      ·exact gD.none
   ·exact gD.none
  ·split
   ·exact gD.none
   ·exact gD.one _
   ·exact gD.aK (gD.one _) _
   ·split
    ·exact gD.one _
    ·exact gD.none
   ·split
    ·exact gD.aK (gD.one _) _
    ·exact gD.none
theorem mP (hE:∀ f cn cP,gD (E.fn f cn cP)) (ops:Array Oper) (draw:Bool):∀ (l:List Oper) (s:St) (fp:List Fp),gD (fun k:St×List Fp->Option R=>gF X E ops draw l s fp fun s f=>k (s,f))
 | [],s,fp=>gD.one _
 | o::l,s,fp=>by
  simp only [gF]
  cases draw with
  | false=>exact (tT hE ops s o).bind (F:=fun x k=>gF X E ops false l ((s.app x.2.2.2).put o.dst (gd x.1 x.2.1 x.2.2.1)) fp fun s f=>k (s,f)) fun x=>mP hE ops false l _ _
  | true =>
   exact (tT hE ops (s.cut ops o) o).bind (F:=fun x k=>gF X E ops true l ((s.app x.2.2.2).put o.dst (gd x.1 x.2.1 x.2.2.1)) (fp++[ji ops s o x.2.2.1 x.2.2.2]) fun s f=>k (s,f))
    fun x=>mP hE ops true l _ _
theorem zx (hE:∀ f cn cP,gD (E.fn f cn cP)) (ops:Array Oper) (draw:Bool) (s:St):gD (fun k:St->Option R=>xt X E ops draw s k):=by
 simp only [xt]
 split
 ·exact gD.none
 ·cases draw with
  | false=>exact (mP (X:=X) hE ops false ops.toList s []).map (fun x:St×List Fp=>(⟨jb x.1.tm,x.1.vs,x.1.rs⟩:St))
  | true =>
   refine (mP (X:=X) hE ops true ops.toList s []).bind (F:=fun (x:St×List Fp) (k:St->Option R)=>match oF 0 ops.toList&&(sQ (lR [] ops.toList) 0 ops.toList&&gH (lR [] ops.toList) 0 [] x.2) with
    | true=>k ⟨jb x.1.tm,x.1.vs,x.1.rs⟩
    | false=>Option.none) fun x=> ?_
   split
   ·exact gD.one _
   ·exact gD.none
theorem js (hE:∀ f cn cP,gD (E.fn f cn cP)) (hL:∀ c i l,gD (fun k:Ex×St->Option R=>lp c i l fun e s=>k (e,s))):∀ (c:Code) (s:St),gD (fun k:Ex×St->Option R=>exec X E L lp c s fun e s=>k (e,s))
 | .skip,s=>gD.one _
 | .region _ ops draw,s=>(zx hE ops draw s).map fun s=>(Ex.normal,s)
 | .seq a b,s=>by
  simp only [exec]
  refine (js hE hL a s).bind (F:=fun x k=>match x.1 with
   | .normal=>exec X E L lp b x.2 fun e s=>k (e,s)
   | e=>k (e,x.2)) fun x=> ?_
  obtain ⟨e,s'⟩:=x
  cases e with
  | normal=>exact js hE hL b s'
  | _=>exact gD.one _
 | .cond c a b,s=>by
  simp only [exec]
  split
  ·rename_i x _
   cases x with
   | true=>exact js hE hL a s
   | false=>exact js hE hL b s
  ·exact gD.none
 | .block id c,s=>by
  simp only [exec]
  refine (js hE hL c s).bind (F:=fun x k=>match x.1 with
   | .exit i=>match Nat.beq i id with
    | true=>k (.normal,x.2)
    | false=>k (x.1,x.2)
   | e=>k (e,x.2)) fun x=> ?_
  obtain ⟨e,s'⟩:=x
  cases e with
  | exit i =>
   simp only
   split
   ·exact gD.one _
   ·exact gD.one _
  | _=>exact gD.one _
 | .loop c,s=>by
  simp only [exec]
  split
  ·exact gD.none
  ·split
   ·exact hL _ _ _
   ·exact gD.none
 | .exit id,s=>gD.one _
 | .ret,s=>gD.one _
 | .rangeFunc ..,s=>gD.none
 | .scope _,s=>gD.none
 | .label _,s=>gD.none
 | .goto _,s=>gD.none
 | .refuse _,s=>gD.none
theorem LS (hE:∀ f cn cP,gD (E.fn f cn cP)) (hL:∀ c i l,gD (fun k:Ex×St->Option R=>lp c i l fun e s=>k (e,s))) (c:Code) (i:Nat) (l:List nk) :
  gD (fun k:Ex×St->Option R=>round X E L lp c i l fun e s=>k (e,s)):=by
 simp only [round]
 split
 ·exact gD.none
 ·rename_i A _
  split
  ·exact gD.none
  ·rename_i s _
   refine (js hE hL c s).bind (F:=fun x k=>match x.1 with
    | .normal=>exec X E L lp (.loop c) x.2 fun e s=>k (e,s)
    | e=>k (e,A.leave e x.2)) fun x=> ?_
   obtain ⟨e,s'⟩:=x
   cases e with
   | normal=>exact js hE hL (.loop c) s'
   | _=>exact gD.one _
end Go.Soft
namespace Go.Soft
open Go
variable {X:Ctx} {m M:Lk} {γ γ':Gh} {w w':World} {ρ:Operand->Value} {S:St} {δ:Dl}
theorem Oi {ms:List Nat} (h:v7.le1 ms=true):(hd ms=0\/hd ms=1)/\v7.le1 (tl ms)=true:=by
 cases ms with
 | nil=>exact ⟨.inl rfl,rfl⟩
 | cons x l =>
  simp only [v7.le1,zB] at h
  have:=zQ h.1
  exact ⟨by simp only [hd]; omega,h.2⟩
theorem KA {vl:List (List Nat)} (h:v7 vl=true):v7.le1 (ov vl)=true/\v7 (tl vl)=true:=by
 cases vl with
 | nil=>exact ⟨rfl,rfl⟩
 | cons x l=>simp only [v7,zB] at h; exact h
theorem zf:∀ {cs:List Cv} {ms:List Nat} {k b:List Nat},v7.le1 ms=true->m.kI ms cs=some (k,b)->k=[]
 | [],ms,k,b,_,h=>by simp only [Lk.kI,zA,zG] at h; exact h.1.symm
 | c::cs,ms,k,b,hl,h=>by
  simp only [Lk.kI] at h
  obtain ⟨h0,h1⟩:=Oi hl
  cases hr:m.kI (tl ms) cs with
  | none=>simp [hr] at h
  | some p =>
   obtain ⟨k0,b0⟩:=p
   have ih:=zf h1 hr
   simp only [hr] at h
   rcases h0 with h0 | h0<;>simp only [h0] at h<;>cases br:c.row<;>simp only [br,zA,zG] at h<;>rw [← h.1,ih]
theorem vt:∀ {κ:List Nat} {vl:List (List Nat)} {k b:List Nat},v7 vl=true->m.eQ vl κ=some (k,b)->k=[]
 | [],vl,k,b,_,h=>by simp only [Lk.eQ,zA,zG] at h; exact h.1.symm
 | v::κ,vl,k,b,hl,h=>by
  obtain ⟨l1,l2⟩:=KA hl
  simp only [Lk.eQ] at h
  cases hv:m.v v with
  | none=>simp [hv] at h
  | some cs =>
   cases h1:m.kI (ov vl) cs with
   | none=>simp [hv,h1] at h
   | some p =>
    cases h2:m.eQ (tl vl) κ with
    | none=>simp [hv,h1,h2] at h
    | some q =>
     obtain ⟨a1,b1⟩:=p
     obtain ⟨a2,b2⟩:=q
     simp only [hv,h1,h2,zA,zG] at h
     rw [← h.1,zf l1 h1,vt l2 h2]; rfl
theorem BL (hR:Rel X S.lk γ w) {f:Cv->Cv} {v:Nat}:∀ {cs:List Cv} {ms:List Nat} {j:Nat} {l:List Ct} {cs':List Cv} {rs:List (Nat×Row)},v7.le1 ms=true->m.iJ cs=some l->eC f v j ms cs l=some (cs',rs) ->
  rs=[]/\∀ (m':Lk) (γ':Gh) (u:List Value),(∀ x v,bu S.lk γ x v->bu m' γ' (f x) v)->cj S.lk γ cs u->cj m' γ' cs' u
 | [],ms,j,l,cs',rs,_,hc,h=>by
  simp only [Lk.iJ,zA] at hc; subst hc
  simp only [eC,zA,zG] at h; obtain ⟨rfl,rfl⟩:=h
  exact ⟨rfl,fun m' γ' u _ hu=>by cases hu; exact .nil⟩
 | c::cs,ms,j,l,cs',rs,hl,hc,h=>by
  simp only [Lk.iJ] at hc
  cases h1:m.ct c with
  | none=>simp [h1] at hc
  | some y =>
   cases h2:m.iJ cs with
   | none=>simp [h1,h2] at hc
   | some ys =>
    simp only [h1,h2,zA] at hc; subst hc
    simp only [eC] at h
    cases eL:eC f v (j+1) (tl ms) cs ys with
    | none=>simp [eL] at h
    | some p =>
     obtain ⟨cs2,rs2⟩:=p
     simp only [eL] at h
     obtain ⟨l0,l1⟩:=Oi hl
     obtain ⟨ih1,ih2⟩:=BL hR l1 h2 eL
     rcases l0 with l0 | l0
     ·simp only [l0] at h
      cases hf:kB y with
      | none=>simp [hf] at h
      | some x =>
       simp only [hf,zA,zG] at h
       obtain ⟨rfl,rfl⟩:=h
       refine ⟨ih1,fun m' γ' u hk hu=> ?_⟩
       cases hu with
       | cons hx hl =>
        refine .cons (DR hf ?_) (ih2 m' γ' _ hk hl)
        by_cases hyu:y= .u
        ·subst hyu; exact .inl ⟨rfl,hx.one hR⟩
        ·right
         refine ⟨hyu,?_⟩
         have Qy:∀ τ xs,y≠ .l τ xs:=by rintro τ xs rfl; simp [kB] at hf
         have:=AB (M:=S.lk) (γ:=γ) h1 hyu Qy
         rw [this] at hx; exact hx
     ·simp only [l0,zA,zG] at h
      obtain ⟨rfl,rfl⟩:=h
      refine ⟨ih1,fun m' γ' u hk hu=> ?_⟩
      cases hu with
      | cons hx hl=>exact .cons (hk _ _ hx) (ih2 m' γ' _ hk hl)
theorem Ey (hm:Le m S.lk) (hR:Rel X S.lk γ w) {f:Cv->Cv}:∀ {κ:List Nat} {vl:List (List Nat)} {cP:List (List Ct)} {vs:List (Nat×List Cv)} {rs:List (Nat×Row)},v7 vl=true->m.uT vl κ=some cP->m.gi f vl κ cP=some (vs,rs) ->
  rs=[]/\∀ v cs',(v,cs')∈vs->∃ cs,S.lk.v v=some cs/\∀ (m':Lk) (γ':Gh) (u:List Value),(∀ x v,bu S.lk γ x v->bu m' γ' (f x) v)->cj S.lk γ cs u->cj m' γ' cs' u
 | [],vl,cP,vs,rs,_,hi,h=>by
  simp only [Lk.uT,zA] at hi; subst hi
  simp only [Lk.gi,zA,zG] at h; obtain ⟨rfl,rfl⟩:=h
  exact ⟨rfl,fun v cs' hm=>by simp at hm⟩
 | v::κ,vl,cP,vs,rs,hl,hi,h=>by
  obtain ⟨l1,l2⟩:=KA hl
  simp only [Lk.uT] at hi
  cases hv:m.v v with
  | none=>simp [hv] at hi
  | some cs =>
   cases hb:Nat.ble cs.length 63 with
   | false=>simp [hv,hb] at hi
   | true =>
    cases hc:m.iJ cs with
    | none=>simp [hv,hb,hc] at hi
    | some l =>
     cases hr:m.uT (tl vl) κ with
     | none=>simp [hv,hb,hc,hr] at hi
     | some r =>
      simp only [hv,hb,hc,hr,zA] at hi; subst hi
      simp only [Lk.gi,hv] at h
      cases h1:eC f v 0 (ov vl) cs l with
      | none=>simp [h1] at h
      | some p =>
       cases h2:m.gi f (tl vl) κ r with
       | none=>simp [h1,h2] at h
       | some q =>
        obtain ⟨a1,r1⟩:=p
        obtain ⟨b1,q1⟩:=q
        simp only [h1,h2,zA,zG] at h
        obtain ⟨rfl,rfl⟩:=h
        obtain ⟨e1,e2⟩:=BL hR l1 hc h1
        obtain ⟨e3,e4⟩:=Ey hm hR l2 hr h2
        refine ⟨by rw [e1,e3]; rfl,fun u cs' Tx=> ?_⟩
        rcases zI.1 Tx with Tx | Tx
        ·cases Tx; exact ⟨cs,hm.v _ _ hv,e2⟩
        ·exact e4 u cs' Tx
theorem Kz {τ:Ty} {xs:List (El τ)} (h:PZ (.l τ xs)=true):xs=[]:=by cases xs<;>simp_all [PZ]
theorem qO {f:Cv->Cv} {as:List AV} {lM:Bool}:∀ {ys:List Rc} {k:Nat} {ms:List Nat} {cs:List Cv} {rs:List (Nat×Row)},p4 ys=true->kV f as lM k ms ys=some (cs,rs)->(∀ p∈rs,p.2.xs=[])/\∀ x∈keys rs,k<=x/\x<k+ys.length
 | [],k,ms,cs,rs,_,h=>by simp only [kV,zA,zG] at h; obtain ⟨rfl,rfl⟩:=h; simp [keys]
 | y::ys,k,ms,cs,rs,hn,h=>by
  simp only [kV] at h
  cases eL:kV f as lM (k+1) (tl ms) ys with
  | none=>simp [eL] at h
  | some p =>
   obtain ⟨cs2,rs2⟩:=p
   simp only [eL] at h
   have WE:p4 ys=true:=by cases y<;>simp_all [p4]
   obtain ⟨i1,i2⟩:=qO WE eL
   have plain:rs=rs2->(∀ p∈rs,p.2.xs=[])/\∀ x∈keys rs,k<=x/\x<k+(y::ys).length:=by
    rintro rfl; exact ⟨i1,fun x hx=>by have:=i2 x hx; simp only [zR]; omega⟩
   have Ov:∀ row:Row,row.xs=[]->rs=(k,row)::rs2->(∀ p∈rs,p.2.xs=[])/\∀ x∈keys rs,k<=x/\x<k+(y::ys).length:=by
    rintro row br rfl
    refine ⟨fun p hp=> ?_,fun x hx=> ?_⟩
    ·rcases zI.1 hp with rfl | hp
     ·exact br
     ·exact i1 p hp
    ·simp only [keys,zI] at hx
     simp only [zR]
     rcases hx with rfl | hx
     ·omega
     ·have:=i2 x hx; omega
   cases y with
   | m y =>
    simp only [p4,zB] at hn
    cases y with
    | l τ xs =>
     simp only at h
     cases lM with
     | true=>simp only [zA,zG] at h; exact Ov _ (Kz hn.1) h.2.symm
     | false=>simp only [zA,zG] at h; exact plain h.2.symm
    | _=>simp only [kB,zA,zG] at h; exact plain h.2.symm
   | c y =>
    simp only [p4,zB] at hn
    cases y with
    | l τ xs=>simp only [zA,zG] at h; exact Ov _ (Kz hn.1) h.2.symm
    | _=>simp only [kB,zA,zG] at h; exact plain h.2.symm
   | _=>simp [p4] at hn
theorem AS {f:Cv->Cv} {as:List AV} {lM:Bool}:∀ {ys:List (Bool×List Rc)} {k:Nat} {ms:List (List Nat)} {ts:List (Bool×List Cv)} {rs:List (Nat×Row)},F0 ys=true->r7 f as lM k ms ys=some (ts,rs) ->
  (∀ p∈rs,p.2.xs=[])/\∀ x∈keys rs,k<=x/\x<k+Mp ys
 | [],k,ms,ts,rs,_,h=>by simp only [r7,zA,zG] at h; obtain ⟨rfl,rfl⟩:=h; simp [keys]
 | (b,l)::ys,k,ms,ts,rs,hn,h=>by
  simp only [F0,zB] at hn
  simp only [r7] at h
  cases h1:kV f as lM k (ov ms) l with
  | none=>simp [h1] at h
  | some p =>
   cases h2:r7 f as lM (k+l.length) (tl ms) ys with
   | none=>simp [h1,h2] at h
   | some q =>
    obtain ⟨cs1,rs1⟩:=p
    obtain ⟨ts2,rs2⟩:=q
    simp only [h1,h2,zA,zG] at h
    obtain ⟨rfl,rfl⟩:=h
    obtain ⟨a1,a2⟩:=qO hn.1 h1
    obtain ⟨b1,b2⟩:=AS hn.2 h2
    refine ⟨fun p hp=>(zH.1 hp).elim (a1 p) (b1 p),fun x hx=> ?_⟩
    rw [bC,zH] at hx
    simp only [Mp,qk]
    rcases hx with hx | hx
    ·have:=a2 x hx; omega
    ·have:=b2 x hx; omega
theorem MN {f:Cv->Cv} {as:List AV} {lM:Bool} {rl:List (List Nat)} {d:Nat} {res:RC} {av:AV} {rs:List (Nat×Row)} {vn:List (Nat×List Cv)} (hn:PV res=true) (h:xD f as lM rl d res=some (av,rs,vn)) :
  vn=[]/\res.kv d=[]/\(∀ p∈rs,p.2.xs=[])/\∀ x∈keys rs,x∈res.keys d:=by
 cases res with
 | u=>simp only [xD,zA,zG] at h; obtain ⟨_,rfl,rfl⟩:=h; simp [keys,RC.kv]
 | c x =>
  simp only [xD] at h
  cases h1:kV f as lM (d*64) (ov rl) [x] with
  | none=>simp [h1] at h
  | some p =>
   obtain ⟨cs,rs1⟩:=p
   obtain ⟨a1,a2⟩:=qO hn h1
   simp only [h1] at h
   revert h; split
   ·rename_i heq
    simp only [zA,zG] at heq
    obtain ⟨rfl,rfl⟩:=heq
    intro h; simp only [zA,zG] at h; obtain ⟨_,rfl,rfl⟩:=h
    refine ⟨rfl,rfl,a1,fun x hx=> ?_⟩
    have:=a2 x hx
    simp only [RC.keys,zS]; simp at this; omega
   ·intro h; cases h
 | a l =>
  simp only [xD] at h
  cases h1:kV f as lM (d*64) (ov rl) l with
  | none=>simp [h1] at h
  | some p =>
   obtain ⟨cs,rs1⟩:=p
   obtain ⟨a1,a2⟩:=qO hn h1
   simp only [h1,zA,zG] at h
   obtain ⟨_,rfl,rfl⟩:=h
   exact ⟨rfl,rfl,a1,fun x hx=>by simp only [RC.keys,qk,ui]; exact a2 x hx⟩
 | t l =>
  simp only [xD] at h
  cases h1:r7 f as lM (d*64) rl l with
  | none=>simp [h1] at h
  | some p =>
   obtain ⟨ts,rs1⟩:=p
   obtain ⟨a1,a2⟩:=AS hn h1
   simp only [h1,zA,zG] at h
   obtain ⟨_,rfl,rfl⟩:=h
   exact ⟨rfl,rfl,a1,fun x hx=>by simp only [RC.keys,ui]; exact a2 x hx⟩
 | np l=>simp [PV] at hn
theorem Sj (hR:Rel X S.lk γ w) (cz:∀ g,w.heap.size<=g->γ.O g=none) (hm:Le m S.lk) {g:uw} {jj:List AV} {ar:AR} {cP:List (List Ct)} {ow b:List Nat} {d:Nat} (hd:d<1500) {av:AV}
  (Lv:m.uT g.vl ar.κ=some cP) (CS:m.te g ar=some (ow,b)) (ha:m.after g jj ar ⟨g.dr,cP,m.Fu ar.io⟩ ow d=some (av,δ))
  (hl:v7 g.vl=true) (hdr:PV g.dr=true) (Nw:ar.gone=[]) (C3:ar.io=[]) (YL:ar.fz=[]):∃ γ',Step X S γ w δ γ' w:=by
 have tM:ow=[]:=by
  simp only [Lk.te] at CS
  cases ho:m.eQ g.vl ar.κ with
  | none=>simp [ho] at CS
  | some p =>
   obtain ⟨dS,b'⟩:=p
   have:=vt hl ho
   simp only [ho] at CS
   revert CS; split
   ·intro h; simp only [zA,zG] at h; rw [← h.1,this]
   ·intro h; cases h
 subst tM
 simp only [Lk.after] at ha
 obtain ⟨δ0,hδ0⟩:∃ δ0,m.WX ar g.dr [] d=δ0:=⟨_,rfl⟩
 rw [hδ0] at ha
 cases h1:m.gi δ0.map g.vl ar.κ cP with
 | none=>simp [h1] at ha
 | some p1 =>
  obtain ⟨vs,r1⟩:=p1
  cases h2:m.nI ar.io (m.Fu ar.io) with
  | none=>simp [h1,h2] at ha
  | some r2 =>
   cases h3:xD δ0.map jj ar.lM g.rl d g.dr with
   | none=>simp [h1,h2,h3] at ha
   | some p3 =>
    obtain ⟨av',r3,vn⟩:=p3
    simp only [h1,h2,h3] at ha
    cases vy:fC (ar.gone++(keys r1++(keys r2++keys r3)))&&sJ 100000 (g.dr.keys d) with
    | false=>simp [vy] at ha
    | true =>
     cases Is:jG ar.fz (keys r1++(keys r2++keys r3)) with
     | false=>simp [vy,Is] at ha
     | true =>
      simp only [vy,Is,zA,zG] at ha
      obtain ⟨rfl,hδ⟩:=ha
      obtain ⟨e1,q1⟩:=Ey hm hR hl Lv h1
      obtain ⟨e3,e4,e5,e6⟩:=MN hdr h3
      have e2:r2=[]:=by
       rw [C3] at h2
       simp only [Lk.Fu,Lk.nI,zA] at h2; exact h2.symm
      subst e1; subst e2; subst e3
      simp only [zB] at vy
      have Xg:=n9.1 vy.2
      have vy:=gO.1 vy.1
      simp only [Nw,keys,List.nil_append] at vy
      have Ie:δ.map=δ0.map:=by rw [← hδ]; funext x; cases x<;>rfl
      have hvsδ:δ.vs=vs:=by rw [← hδ]; simp
      have lh:δ.kr=g.dr.keys d++m.lI ar.κ:=by rw [← hδ,← hδ0]; simp [Lk.WX,Nw]
      have hkvδ:δ.kv=[]:=by rw [← hδ,← hδ0]; exact e4
      have EG:δ.mv=[]:=by rw [← hδ,← hδ0]; rfl
      have AF:∀ k,fx δ.rs k=(lk r3 k).map some:=by
       intro k
       rw [← hδ]
       show fx (BX ar.gone++(m.TO ar.fz++(mZ []++(mZ []++mZ r3)))) k=_
       rw [Nw,YL]
       simp only [BX,Lk.TO,mZ,List.nil_append]
       exact yp vy k
      let γ':Gh:=⟨γ.O,fun k=>match lk r3 k with | some _=> .slice none 0 0 | none=>γ.rv k,fun k=>match lk r3 k with | some _=>[] | none=>γ.cv k,γ.vb⟩
      have wy:∀ k,lk r3 k=none->γ'.rv k=γ.rv k/\γ'.cv k=γ.cv k:=by
       intro k hk
       constructor
       ·show (match lk r3 k with | some _=>Value.slice none 0 0 | none=>γ.rv k)=_; rw [hk]
       ·show (match lk r3 k with | some _=>[] | none=>γ.cv k)=_; rw [hk]
      have Qo:∀ r,cp r δ.kr=false->lk r3 r=none:=by
       intro r hr
       rw [cL]
       intro J5
       have:r∈δ.kr:=by rw [lh]; exact List.mem_append_left _ (e6 r J5)
       rw [ft.2 this] at hr; cases hr
      have Ic:∀ r,lk r3 r=none->(S.app δ).lk.r r=S.lk.r r:=by
       intro r hr; rw [kT,AF,hr]; rfl
      have qv:∀ x v,bu S.lk γ x v->bu (S.app δ).lk γ' (δ.map x) v:=by
       refine mL hR EG (fun r row hr hk=> ?_) (fun r row row' hr hk _ cC=> ?_) (fun r hk _ _=>⟨fun row row' hr cC=> ?_⟩) (fun k cs hk _=>⟨?_,rfl⟩)
       ·exact ⟨⟨row,by rw [Ic r (Qo r hk)]; exact hr⟩,(wy r (Qo r hk)).1⟩
       ·rw [Ic r (Qo r hk),hr] at cC; cases cC; exact ⟨rfl,Nat.le_refl _⟩
       ·rw [Ic r (Qo r hk),hr] at cC; cases cC
        intro e c' τ ys _ hc
        exact ⟨⟨ys,hc,Nat.le_refl _⟩,by rw [(wy r (Qo r hk)).2]⟩
       ·rw [o8]
        cases fx δ.vs k with
        | some cs'=>exact ⟨cs',rfl⟩
        | none=>simp only [hk,Option.map_some]; exact ⟨_,rfl⟩
      have keep0:∀ x v,bu S.lk γ x v->bu (S.app δ).lk γ' (δ0.map x) v:=by rw [← Ie]; exact qv
      refine ⟨γ',⟨⟨fun k cs hk=> ?_,fun k row hk=> ?_⟩,qv,⟨rfl,rfl,rfl,Nat.le_refl _,fun g hg _=>⟨rfl,rfl⟩,cz⟩,fun k row hk _=> ?_,fun k row hk Iw=> ?_,fun k Iw J8=> ?_,fun _ _=>rfl,fun k cs hk _=>⟨rfl,(hR.vs k cs hk).1,rfl⟩⟩⟩
      ·rw [o8,hvsδ] at hk
       cases hz:fx vs k with
       | none =>
        rw [hz] at hk
        cases hc:S.lk.v k with
        | none=>simp [hc] at hk
        | some cs0 =>
         simp only [hc,Option.map_some,zA] at hk; subst hk
         obtain ⟨hO,cur,e,ng,CO⟩:=hR.vs k cs0 hc
         exact ⟨hO,cur,e,ng,CO.map qv⟩
       | some cs1 =>
        rw [hz] at hk; simp only [zA] at hk; subst hk
        have eP:∀ (l:List (Nat×List Cv)),fx l k=some cs1->(k,cs1)∈l:=by
         intro l
         induction l with
         | nil=>intro h; simp [fx] at h
         | cons p l ih =>
          obtain ⟨j,u⟩:=p
          intro h
          simp only [fx] at h
          cases hl:fx l k with
          | some u2=>rw [hl] at h; simp only [zA] at h; subst h; exact zJ _ (ih hl)
          | none =>
           rw [hl] at h
           by_cases hj:j=k
           ·simp only [hj,if_true,zA] at h; subst h; subst hj; simp
           ·simp only [hj,if_false] at h; cases h
        obtain ⟨cs,je,hq⟩:=q1 k cs1 (eP vs hz)
        obtain ⟨hO,cur,e,ng,CO⟩:=hR.vs k cs je
        exact ⟨hO,cur,e,ng,hq _ _ _ keep0 CO⟩
      ·rw [kT,AF] at hk
       cases hl:lk r3 k with
       | none =>
        rw [hl] at hk
        obtain ⟨a1,a2⟩:=wy k hl
        rw [a1,a2]; exact hR.rs k row hk
       | some row2 =>
        rw [hl] at hk; simp only [Option.map_some] at hk; cases hk
        have a1:γ'.rv k= .slice none 0 0:=by show (match lk r3 k with | some _=>Value.slice none 0 0 | none=>γ.rv k)=_; rw [hl]
        have a2:γ'.cv k=[]:=by show (match lk r3 k with | some _=>[] | none=>γ.cv k)=_; rw [hl]
        have Ub:=e5 _ (cU hl)
        obtain ⟨τ,xs,ow⟩:=row
        simp only at Ub; subst Ub
        rw [a1,a2]; exact cX.nil _ _ _ _ _ _
      ·rw [AF] at hk
       cases hl:lk r3 k with
       | none=>exact wy k hl
       | some row2=>rw [hl] at hk; cases hk
      ·rw [AF] at hk
       cases hl:lk r3 k with
       | none=>rw [hl] at hk; cases hk
       | some row2=>exact Xg k (e6 k (mem_keys (cU hl)))
      ·refine (wy k ?_).1
       rw [cL]; intro J5
       have:=Xg k (e6 k J5); omega
def tv (a:Act) (p:List (Nat×Bool)):Prop:=∀ x∈p,a.tmps.getD x.1 undef= .bool x.2
structure yk (D:List Nat) (S:St) (a:Act):Prop where
 g:∀ t p q v,lk S.tm t=some (.g p q v)->(∀ x∈p,x.1∈D)/\(q=true↔tv a p)
theorem GV {a:Act}:∀ {p P:List (Nat×Bool)},Bb p P=true->tv a P->tv a p
 | [],P,_,_=>fun x hx=>by simp at hx
 | (t,x)::p,[],h,_=>by simp [Bb] at h
 | (t,x)::p,(u,y)::P,h,hP=>by
  simp only [Bb,zB] at h
  have ht:=aM h.1
  subst ht
  have ND:x=y:=by cases x<;>cases y<;>simp_all
  subst ND
  intro z hz
  rcases zI.1 hz with rfl | hz
  ·exact hP _ zO
  ·exact GV h.2.2 (fun u hu=>hP u (zJ _ hu)) z hz
theorem Lc (hR:Rel X S.lk γ w) (cz:∀ g,w.heap.size<=g->γ.O g=none):Step X S γ w Dl.z γ w:=by
 have e:S.app Dl.z=S:=rfl
 refine ⟨by rw [e]; exact hR,fun x v hx=>by rw [e,tW rfl]; exact hx,⟨rfl,rfl,rfl,Nat.le_refl _,fun _ _ _=>⟨rfl,rfl⟩,cz⟩,fun _ _ _ _=>⟨rfl,rfl⟩,fun k row h=>(by cases h),fun _ _ _=>rfl,fun _ _=>rfl,fun k cs hk _=>⟨rfl,(hR.vs k cs hk).1,rfl⟩⟩
theorem yQ {v:AV} {u:Value} (h:bq M γ v u):bq M γ (vj v) u:=by
 cases v<;>first | exact h | exact trivial
theorem FB {p:List (Nat×Bool)} {q:Bool} {v:AV} {u:Value} (hq:q=true) (h:bq M γ v u):bq M γ (gd p q v) u:=by
 cases p with
 | nil=>exact yQ h
 | cons x p=>exact ⟨fun _=>h,fun e=>by rw [hq] at e; cases e⟩
theorem KH {p:List (Nat×Bool)} {v:AV} (hp:p≠[]):bq M γ (gd p false v) undef:=by
 cases p with
 | nil=>exact absurd rfl hp
 | cons x p=>exact ⟨fun e=>(by cases e),fun _=>rfl⟩
theorem jd {R α:Type} (r0:R) {x y:α} (h:∀ K:α->Option R,K x=K y):x=y:=by
 classical
 have:=h fun z=>if z=x then some r0 else none
 simp only [if_true] at this
 by_cases hy:y=x
 ·exact hy.symm
 ·simp [hy] at this
theorem bQ {R α:Type} (r0:R) {y:α} (h:∀ K:α->Option R,none=K y):False:=by
 have:=h fun _=>some r0
 simp at this
section
variable {R:Type} {E:Env R} {ops:Array Oper} {s':St} {a:Act} {D:List Nat}
theorem get_some {t:Nat} {v:AV} (h:s'.get t=v) (hv:v≠ .c .un):lk s'.tm t=some v:=by
 simp only [St.get] at h
 cases hl:lk s'.tm t with
 | some u=>simp only [hl] at h; rw [h]
 | none=>simp only [hl] at h; exact absurd h.symm hv
theorem OL (hT:FO X S γ a) (hG:yk D S a) (ht:∀ t av,lk s'.tm t=some av->lk S.tm t=some av) {o:Oper} (Ik:∀ j w,o.guard=some (j,w)->∀ oj t,ops[j]? =some oj->oj.dst=some t->t∈D)
  {p:List (Nat×Bool)} {q:Bool} (h:yE ops s' o.guard=some (p,q)) :
  (∀ x∈p,x.1∈D)/\(q=true↔tv a p)/\Region.wanted o (yielded ops a.tmps)=q/\(p=[]->q=true):=by
 simp only [Region.wanted]
 cases hg:o.guard with
 | none =>
  rw [hg] at h
  simp only [yE,zA,zG] at h
  obtain ⟨rfl,rfl⟩:=h
  exact ⟨by simp,by simp [tv],rfl,fun _=>rfl⟩
 | some jw =>
  obtain ⟨j,want⟩:=jw
  rw [hg] at h
  simp only [yE] at h
  cases hj:ops[j]? with
  | none=>simp [hj] at h
  | some oj =>
   simp only [hj] at h
   cases hd:oj.dst with
   | none=>simp [hd] at h
   | some t =>
    simp only [hd] at h
    have hD:=Ik j want hg oj t hj hd
    have hy:∀ x,a.tmps.getD t undef= .bool x->yielded ops a.tmps j=some x:=by
     intro x hx
     have:a.tmps[t]? =some (.bool x):=by
      rw [Array.getD_eq_getD_getElem?] at hx
      cases hh:a.tmps[t]? with
      | none=>rw [hh] at hx; cases hx
      | some v=>rw [hh] at hx; simp only [Option.getD_some] at hx; rw [hx]
     simp only [yielded,hj,Option.bind_some,hd,this]
    have hyn:a.tmps.getD t undef=undef->yielded ops a.tmps j=none:=by
     intro hx
     simp only [yielded,hj,Option.bind_some,hd]
     rw [Array.getD_eq_getD_getElem?] at hx
     cases hh:a.tmps[t]? with
     | none=>rfl
     | some v =>
      rw [hh] at hx; simp only [Option.getD_some] at hx; subst hx; rfl
    revert h; split
    ·rename_i x hx
     intro h
     simp only [zA,zG] at h
     obtain ⟨rfl,rfl⟩:=h
     have hv:=hT.2 t _ (ht t _ (get_some hx (by simp)))
     have hv:a.tmps.getD t undef= .bool x:=hv
     refine ⟨by simpa using hD,?_,?_,by simp⟩
     ·simp only [tv,zS,forall_eq,hv,Value.bool.injEq]
      cases want<;>cases x<;>simp
     ·show (yielded ops a.tmps j==some want)=_
      rw [hy x hv]; cases want<;>cases x<;>rfl
    ·rename_i p' q' x hx
     intro h
     simp only [zA,zG] at h
     obtain ⟨rfl,rfl⟩:=h
     have hl:=ht t _ (get_some hx (by simp))
     obtain ⟨g1,g2⟩:=hG.g t _ _ _ hl
     have hv:=hT.2 t _ hl
     refine ⟨fun y hy=> ?_,?_,?_,by simp⟩
     ·rcases zH.1 hy with hy | hy
      ·exact g1 y hy
      ·simp at hy; rw [hy]; exact hD
     ·simp only [tv,zH,zS]
      cases hq:q' with
      | true =>
       have hv:a.tmps.getD t undef= .bool x:=hv.1 hq
       have Rr:=g2.1 hq
       constructor
       ·intro h y hy
        rcases hy with hy | hy
        ·exact Rr y hy
        ·rw [hy,hv]; cases want<;>cases x<;>simp_all
       ·intro h
        have:=h (t,want) (.inr rfl)
        rw [hv] at this
        simp only [Value.bool.injEq] at this
        subst this; cases x<;>rfl
      | false =>
       have:¬ tv a p':=fun h=>by have:=g2.2 h; rw [hq] at this; cases this
       simp only [Bool.false_and,Bool.false_eq_true,false_iff]
       exact fun h=>this fun y hy=>h y (.inl hy)
     ·cases hq:q' with
      | true =>
       have hv:a.tmps.getD t undef= .bool x:=hv.1 hq
       show (yielded ops a.tmps j==some want)=_
       rw [hy x hv]; cases want<;>cases x<;>rfl
      | false =>
       have hv:a.tmps.getD t undef=undef:=hv.2 hq
       show (yielded ops a.tmps j==some want)=_
       rw [hyn hv]; cases want<;>cases x<;>rfl
    ·intro h; cases h
theorem tC (hT:FO X S γ a) (hG:yk D S a) (ht:∀ t av,lk s'.tm t=some av->lk S.tm t=some av) {p:List (Nat×Bool)} (hp:tv a p) (ty:TypeId) (x:Operand):bq S.lk γ (X.yj s' p ty x) (a.eval x) :=
 R0 (M:=S.lk) (fun t av h=>hT.2 t av (ht t av h)) p (fun t p' q v h hi=>(hG.g t p' q v (ht t _ h)).2.2 (GV hi hp)) ty x
theorem JQ {P:Program} {f:FuncId} (h:vU P f) (args:Array Value) (w:World):(callFunc f args).run P w= .ok (.enter f args) w:=by
 obtain ⟨fn,h1,h2,h3⟩:=h
 have J8:¬ fn.name = "runtime.NumGoroutine" := by simpa using h2
 have Ly:¬ fn.body=none:=by cases hb:fn.body<;>simp_all
 simp [callFunc,h1,J8,Ly]
theorem MZ {p:List (Nat×Bool)} {g:uw} {ar:AR} {v:AV} (hp:p≠[]) (h:Bk p g ar v=true):v7 g.vl=true/\PV g.dr=true/\ar.gone=[]/\ar.io=[]/\ar.fz=[]:=by
 cases p with
 | nil=>exact absurd rfl hp
 | cons x p =>
  simp only [Bk,zB] at h
  obtain ⟨a1,a2,a3⟩:=h
  refine ⟨a1,a2,?_⟩
  revert a3; split
  ·simp
  ·intro _; exact ⟨by assumption,by assumption,by assumption⟩
  ·simp
theorem Ll (r0:R) (hX:iH X) (hE:sE X E) (hR:Rel X S.lk γ w) (cz:∀ g,w.heap.size<=g->γ.O g=none) (hT:FO X S γ a) (hG:yk D S a) (hm:Le s'.lk S.lk)
  (ht:∀ t av,lk s'.tm t=some av->lk S.tm t=some av) {o:Oper} (hnt:X.nt<=1500) (adA:∀ d,o.dst=some d->d<X.nt) (Ik:∀ j w,o.guard=some (j,w)->∀ oj t,ops[j]? =some oj->oj.dst=some t->t∈D)
  {p:List (Nat×Bool)} {q:Bool} {v:AV} (sv:∀ K:List (Nat×Bool)×Bool×AV×Dl->Option R,(BV X E ops s' o fun p q v δ=>K (p,q,v,δ))=K (p,q,v,δ)) {next:Act->World->Prop} {Q:Exit->Act->World->Prop}
  (hn:∀ γ' w' u,Step X S γ w δ γ' w'->bq (S.app δ).lk γ' (gd p q v) u->next (a.put o.dst u) w') :
  ((∀ x∈p,x.1∈D)/\(q=true↔tv a p))/\(if Region.wanted o (yielded ops a.tmps) then o.wp X.P a w next Q else next (a.put o.dst undef) w):=by
 have J7:(match o.dst with | some d=>d | none=>0)<1500:=by
  cases hd:o.dst with
  | none=>simp
  | some d=>exact Nat.lt_of_lt_of_le (adA d hd) hnt
 simp only [BV] at sv
 cases hg:yE ops s' o.guard with
 | none=>simp only [hg] at sv; exact (bQ r0 sv).elim
 | some pq =>
  obtain ⟨p0,q0⟩:=pq
  simp only [hg] at sv
  obtain ⟨g1,g2,g3,g4⟩:=OL hT hG ht Ik hg
  have fin:∀ {v0:AV} {δ0:Dl},(∀ K:List (Nat×Bool)×Bool×AV×Dl->Option R,K (p0,q0,v0,δ0)=K (p,q,v,δ))->p0=p/\q0=q/\v0=v/\δ0=δ:=by
   intro v0 δ0 h
   have:=jd r0 h
   simp only [zG] at this
   exact this
  have plain:∀ {v0:AV},(q0=true->Good (cd X (fun e=>X.yj s' (p0++e)) s'.lk (match o.dst with | some d=>d | none=>0) o.type o.op) v0) ->
    (∀ K:List (Nat×Bool)×Bool×AV×Dl->Option R,K (p0,q0,v0,Dl.z)=K (p,q,v,δ)) ->
    ((∀ x∈p,x.1∈D)/\(q=true↔tv a p))/\(if Region.wanted o (yielded ops a.tmps) then o.wp X.P a w next Q else next (a.put o.dst undef) w):=fun YF hK=>by
   obtain ⟨rfl,rfl,rfl,rfl⟩:=fin hK
   refine ⟨⟨g1,g2⟩,?_⟩
   have e:S.app Dl.z=S:=rfl
   rw [g3]
   cases hq:q0 with
   | true =>
    have Rr:=g2.1 hq
    obtain ⟨u,hu,hr⟩:=SO hX hm hR (evp:=fun e=>X.yj s' (p0++e)) (fun ty x=>by rw [List.append_nil]; exact tC hT hG ht Rr ty x)
     (fun ty t x xa xb hx=>by
      have hv:=tC hT hG ht Rr ty (.tmp t)
      simp only [List.append_nil] at hx
      rw [hx] at hv
      have hv:a.eval (.tmp t)= .bool x:=hv
      have Tw:tv a (p0++[(t,x)]):=by
       intro y hy
       rcases zH.1 hy with hy | hy
       ·exact Rr y hy
       ·simp at hy; rw [hy]; exact hv
      exact ⟨fun hx=>by rw [hx] at Tw; exact tC hT hG ht Tw ty xa,fun hx=>by rw [hx] at Tw; exact tC hT hG ht Tw ty xb⟩) (YF hq)
    simp only [if_true,Oper.wp,hu,Oper.upon]
    exact hn γ w u (Lc hR cz) (by rw [e]; exact FB (by first | rfl | exact hq) hr)
   | false =>
    have hp:p0≠[]:=fun h=>by have:=g4 h; rw [hq] at this; cases this
    simp only [Bool.false_eq_true,if_false]
    exact hn γ w undef (Lc hR cz) (by rw [hq]; exact KH hp)
  have XE:∀ {v0:AV} {δ0:Dl},p0=[]->(cd X (fun e=>X.yj s' (p0++e)) s'.lk (match o.dst with | some d=>d | none=>0) o.type o.op= .w0 v0 δ0\/cd X (fun e=>X.yj s' (p0++e)) s'.lk (match o.dst with | some d=>d | none=>0) o.type o.op= .w true v0 δ0) ->
    (∀ K:List (Nat×Bool)×Bool×AV×Dl->Option R,K (p0,q0,v0,δ0)=K (p,q,v,δ)) ->
    ((∀ x∈p,x.1∈D)/\(q=true↔tv a p))/\(if Region.wanted o (yielded ops a.tmps) then o.wp X.P a w next Q else next (a.put o.dst undef) w):=fun lX qd hK=>by
   obtain ⟨rfl,rfl,rfl,rfl⟩:=fin hK
   refine ⟨⟨g1,g2⟩,?_⟩
   have hq:=g4 lX
   rw [g3,hq]
   have Rr:=g2.1 hq
   obtain ⟨r,u,w',γ',h1,h2,h3,h4⟩:=U0 hX hR cz hm (ρ:=a.eval) (fun ty x=>by rw [List.append_nil]; exact tC hT hG ht Rr ty x) J7 qd
   simp only [if_true,Oper.wp,h1]
   rcases h2 with rfl | ⟨rfl,rfl⟩
   ·simp only [Oper.upon]; exact hn γ' w' u h4 (FB hq h3)
   ·simp only [Oper.upon]; exact hn γ' w' undef h4 (FB hq h3)
  revert sv; split
  ·
   rename_i f args argTypes LC
   split
   ·rename_i fid caps Z9
    split
    ·intro sv; exact (bQ r0 sv).elim
    ·rename_i sig ac6
     split
     ·intro sv; exact (bQ r0 sv).elim
     ·rename_i ar Qr
      split
      ·rename_i cP ow bb Lv CS Qt
       intro sv
       have Z9:X.yj s' (p0++[]) 0 f= .c (.fn fid caps):=Z9
       let jj:=sm (X.yj s' (p0++[]) 0) args.toList++sm (fun v=>AV.c (.pv v 0)) caps
       let c:bP:=⟨s'.lk,sig,jj,ar,cP,ow,bb⟩
       simp only [zB] at Qt
       have xV:c.Ok:=⟨Qr,Lv,CS,zQ Qt.1,zQ Qt.2⟩
       obtain ⟨Qi,acX⟩:=hE.fn fid sig ac6
       have after:∀ cr:CR,(∀ K:List (Nat×Bool)×Bool×AV×Dl->Option R,(match s'.lk.after sig jj ar cr ow (match o.dst with | some d=>d | none=>0) with
         | none=>none
         | some (v,δ)=>match Bk p0 sig ar v with
          | true=>K (p0,q0,v,δ)
          | false=>none)=K (p,q,v,δ)) ->
         p0=p/\q0=q/\s'.lk.after sig jj ar cr ow (match o.dst with | some d=>d | none=>0)=some (v,δ)/\Bk p sig ar v=true:=by
        intro cr hK
        cases ha:s'.lk.after sig jj ar cr ow (match o.dst with | some d=>d | none=>0) with
        | none=>simp only [ha] at hK; exact (bQ r0 hK).elim
        | some vd =>
         obtain ⟨v0,δ0⟩:=vd
         simp only [ha] at hK
         cases Ak:Bk p0 sig ar v0 with
         | false=>simp only [Ak] at hK; exact (bQ r0 hK).elim
         | true =>
          simp only [Ak] at hK
          obtain ⟨rfl,rfl,rfl,rfl⟩:=fin hK
          exact ⟨rfl,rfl,rfl,Ak⟩
       have comes:q0=true->(∀ K:List (Nat×Bool)×Bool×AV×Dl->Option R,(E.fn fid ar.cn cP fun cr=>match s'.lk.after sig jj ar cr ow (match o.dst with | some d=>d | none=>0) with
         | none=>none
         | some (v,δ)=>match Bk p0 sig ar v with
          | true=>K (p0,q0,v,δ)
          | false=>none)=K (p,q,v,δ)) ->
         ((∀ x∈p,x.1∈D)/\(q=true↔tv a p))/\(if Region.wanted o (yielded ops a.tmps) then o.wp X.P a w next Q else next (a.put o.dst undef) w):=by
        intro hq hK
        obtain ⟨oc,rP⟩:=hE.Gf fid ar.cn cP
        cases oc with
        | none=>exact (bQ r0 fun K=>by have:=hK K; rw [rP] at this; exact this).elim
        | some cr =>
         have Rt:=after cr fun K=>by have:=hK K; rw [rP] at this; exact this
         obtain ⟨rfl,rfl,ha,_⟩:=Rt
         refine ⟨⟨g1,g2⟩,?_⟩
         rw [g3,hq]
         have Rr:=g2.1 hq
         have Z8:=tC hT hG ht Rr 0 f
         rw [List.append_nil] at Z9
         rw [Z9] at Z8
         obtain ⟨TK,Z8⟩:=Z8
         let vals:=args.toList.map a.eval++caps.map fun k=>Value.pointer (some ⟨γ.vb k,0,none⟩)
         have nE:(execOp a.eval o).run X.P w= .ok (.enter fid vals.toArray) w:=by
          have he:execOp a.eval o=(do let d←resolve a.eval ⟨.value f,args,argTypes⟩ o.type; invoke d.target d.args):=by
           simp only [execOp,LC]
          rw [he]
          simp only [resolve,Sem.run_bind,Deferred.ofValue,Z8,Sem.run_pure,Result.andThen_ok,invoke]
          rw [JQ acX]
          congr 2
          apply Array.toList_inj.1
          simp [vals]
         have Wu:lU S.lk γ jj vals:=by
          have h1:∀ l:List Operand,lU S.lk γ (sm (X.yj s' (p0++[]) 0) l) (l.map a.eval):=by
           intro l
           induction l with
           | nil=>exact .nil
           | cons x l ih=>exact .cons (by rw [List.append_nil]; exact tC hT hG ht Rr 0 x) ih
          have h2:∀ l:List Nat,(∀ k∈l,∃ cs,S.lk.v k=some cs)->lU S.lk γ (sm (fun v=>AV.c (.pv v 0)) l) (l.map fun k=>Value.pointer (some ⟨γ.vb k,0,none⟩)):=by
           intro l
           induction l with
           | nil=>intro _; exact .nil
           | cons x l ih=>intro h; exact .cons ⟨h x zO,rfl⟩ (ih fun k hk=>h k (zJ _ hk))
          have ac9:∀ {l l':List AV} {u u':List Value},lU S.lk γ l u->lU S.lk γ l' u'->lU S.lk γ (l++l') (u++u'):=by
           intro l l' u u' h h'
           induction h with
           | nil=>exact h'
           | cons hx _ ih=>exact .cons hx ih
          exact ac9 (h1 _) (h2 _ TK)
         have YM:c.Ip X S γ w vals:=⟨xV,hm,hR,cz,Wu⟩
         simp only [if_true,Oper.wp,nE,Oper.upon]
         refine (Qi.ok ar.cn cP cr (fun k=>by rw [rP]; rfl) _ w vals YM.pre).mono ?_
         rintro e w1 ⟨u,rfl,YD⟩
         obtain ⟨γ',qd,hr⟩:=Tc YM YD J7 ha
         exact hn γ' w1 u qd (FB hq hr)
       by_cases Zh:p0=[]
       ·have Zg:∀ (f:(CR->Option R)->Option R) (d:CR) (k:CR->Option R),Em p0 q0 f d k=f k:=by intro f d k; rw [Zh]
        exact comes (g4 Zh) fun K=>by have:=sv K; rw [Zg] at this; exact this
       ·have Zg:∀ (f:(CR->Option R)->Option R) (d:CR) (k:CR->Option R),Em p0 q0 f d k=f fun cr=>match Jz q0 cr d with | some c=>k c | none=>none:=by
         intro f d k; cases lX:p0 with
         | nil=>exact absurd lX Zh
         | cons x p1=>rfl
        obtain ⟨oc,rP⟩:=hE.Gf fid ar.cn cP
        cases oc with
        | none=>exact (bQ r0 fun K=>by have:=sv K; rw [Zg,rP] at this; exact this).elim
        | some cr1 =>
        cases qe:Jz q0 cr1 ⟨sig.dr,cP,s'.lk.Fu ar.io⟩ with
        | none=>exact (bQ r0 fun K=>by have:=sv K; rw [Zg,rP] at this; simp only [Option.bind,qe] at this; exact this).elim
        | some c1 =>
        have Zw:=fun K=>by have:=sv K; rw [Zg,rP] at this; simp only [Option.bind,qe] at this; exact this
        have qe:=RJ qe
        rcases Bool.eq_false_or_eq_true q0 with hq | hq
        ·have cb:c1=cr1:=by rw [qe,hq]; rfl
         exact comes hq fun K=>by have:=Zw K; rw [cb] at this; rw [rP]; exact this
        ·have cb:c1=⟨sig.dr,cP,s'.lk.Fu ar.io⟩:=by rw [qe,hq]; rfl
         have WG:=after ⟨sig.dr,cP,s'.lk.Fu ar.io⟩ fun K=>by have:=Zw K; rw [cb] at this; exact this
         obtain ⟨rfl,rfl,ha,Ak⟩:=WG
         rw [hq] at g3
         refine ⟨⟨g1,g2⟩,?_⟩
         rw [g3]
         simp only [Bool.false_eq_true,if_false]
         have aeo:=MZ Zh Ak
         obtain ⟨b1,b2,b3,b4,b5⟩:=aeo
         obtain ⟨γ',qd⟩:=Sj hR cz hm J7 Lv CS ha b1 b2 b3 b4 b5
         exact hn γ' w undef qd (by rw [hq]; exact KH Zh)
      ·intro sv; exact (bQ r0 sv).elim
   ·intro sv; exact (bQ r0 sv).elim
  ·
   split
   ·intro sv; exact (bQ r0 sv).elim
   ·rename_i v0 qd
    intro sv
    exact plain (fun _=> .inl qd) sv
   ·rename_i c v0 qd
    intro sv
    cases hc:ck p0 q0 c with
    | false=>exact (bQ r0 fun K=>by have:=sv K; rw [hc] at this; exact this).elim
    | true =>
     refine plain (fun hq=> .inr ?_) (fun K=>by have:=sv K; rw [hc] at this; exact this)
     have:c=true:=by
      simp only [ck] at hc
      revert hc; split
      ·exact id
      ·rw [hq]; simp
     rw [← this]; exact qd
   ·rename_i v0 δ0 qd
    cases lX:p0 with
    | nil=>intro sv; exact XE lX (.inl (by rw [lX]; rw [lX] at qd; exact qd)) (fun K=>by rw [lX]; exact sv K)
    | cons x p1=>intro sv; exact (bQ r0 sv).elim
   ·rename_i c v0 δ0 qd
    cases lX:p0 with
    | nil =>
     intro sv
     cases hc:c with
     | false=>exact (bQ r0 fun K=>by have:=sv K; rw [hc] at this; exact this).elim
     | true=>exact XE lX (.inr (by rw [lX]; rw [lX,hc] at qd; exact qd)) (fun K=>by rw [lX]; have:=sv K; rw [hc] at this; exact this)
    | cons x p1=>intro sv; exact (bQ r0 sv).elim
end
end Go.Soft
namespace Go.Soft
open Go
variable {X:Ctx} {m M:Lk} {γ γ':Gh} {w w':World} {ρ:Operand->Value} {S:St} {δ:Dl}
structure Inv (X:Ctx) (e0:Lk) (γ0:Gh) (w0:World) (S:St) (γ:Gh) (a:Act) (w:World):Prop where
 rel:Rel X S.lk γ w
 top:∀ g,w.heap.size<=g->γ.O g=none
 tmp:FO X S γ a
 df:a.defers=[]
 fr:Fr γ0.O w0 γ.O w
 i3:∀ k row,100000<=k->k<400000->S.lk.r k=some row->row.ow=1->e0.r k=some row/\γ.rv k=γ0.rv k/\γ.cv k=γ0.cv k
 i4:∀ k,200000<=k->k<300000->γ.rv k=γ0.rv k
 i2:∀ k,k<1000->γ.vb k=γ0.vb k
theorem IW (S:St) (d:Option Nat) (v:AV):(S.put d v).lk=S.lk:=by cases d<;>rfl
theorem JH (S:St) (d:Option Nat) (v:AV) (t:Nat):lk (S.put d v).tm t=if d=some t then some v else lk S.tm t:=by
 cases d with
 | none=>simp [St.put]
 | some d =>
  show (match Nat.beq d t with | true=>some v | false=>lk S.tm t)=_
  cases h:Nat.beq d t with
  | true=>have:=aM h; subst this; simp
  | false =>
   have:d≠t:=by rintro rfl; rw [Nat.beq_refl] at h; cases h
   simp [this]
theorem KL (a:Act) (d:Option Nat) (u:Value) (t:Nat) (hd:∀ x,d=some x->x<a.tmps.size):(a.put d u).tmps.getD t undef=if d=some t then u else a.tmps.getD t undef:=by
 cases d with
 | none=>simp [Act.put]
 | some d =>
  have:=hd d rfl
  simp only [Act.put,Array.getD_eq_getD_getElem?,Array.getElem?_setIfInBounds]
  by_cases h:d=t
  ·subst h; simp [this]
  ·simp [h]
theorem Qa (a:Act) (d:Option Nat) (u:Value):(a.put d u).tmps.size=a.tmps.size:=by cases d<;>simp [Act.put]
theorem VM (a:Act) (d:Option Nat) (u:Value):(a.put d u).defers=a.defers:=by cases d<;>rfl
section
variable {e0:Lk} {γ0:Gh} {w0:World} {a:Act}
theorem Inv.step (hI:Inv X e0 γ0 w0 S γ a w) (hs:Step X S γ w δ γ' w') {d:Option Nat} (hd:∀ x,d=some x->x<X.nt) {v:AV} {u:Value} (hu:bq (S.app δ).lk γ' v u) :
  Inv X e0 γ0 w0 ((S.app δ).put d v) γ' (a.put d u) w':=by
 have AF:=IW (S.app δ) d v
 have mH:∀ x,d=some x->x<a.tmps.size:=fun x hx=>Nat.lt_of_lt_of_le (hd x hx) hI.tmp.1
 refine ⟨by rw [AF]; exact hs.rel,hs.fr.top,⟨by rw [Qa]; exact hI.tmp.1,fun t av ht=> ?_⟩,by rw [VM]; exact hI.df,hI.fr.trans hs.fr,fun k row h1 h2 hr ho=> ?_,fun k h1 h2=> ?_,fun k hk=> ?_⟩
 ·rw [JH] at ht
  rw [KL a d u t mH,AF]
  by_cases h:d=some t
  ·rw [if_pos h] at ht ⊢; cases ht; exact hu
  ·rw [if_neg h] at ht ⊢
   rw [OY] at ht
   cases hl:lk S.tm t with
   | none=>rw [hl] at ht; cases ht
   | some av0 =>
    rw [hl] at ht; simp only [Option.map_some,zA] at ht; subst ht
    exact (hI.tmp.2 t av0 hl).map hs.qv (by rfl)
 ·rw [AF,kT] at hr
  cases hz:fx δ.rs k with
  | some r =>
   rw [hz] at hr; simp only at hr; subst hr
   have:=hs.k1 k row hz ho; omega
  | none =>
   rw [hz] at hr
   obtain ⟨a1,a2,a3⟩:=hI.i3 k row h1 h2 hr ho
   obtain ⟨b1,b2⟩:=hs.kp k row hz hr
   exact ⟨a1,b1.trans a2,b2.trans a3⟩
 ·exact (hs.io k h1 h2).trans (hI.i4 k h1 h2)
 ·exact (hs.vb k hk).trans (hI.i2 k hk)
theorem yk.step {D:List Nat} (hG:yk D S a) {d:Option Nat} {D':List Nat} (hD:∀ x∈D,x∈D') (hd:∀ x,d=some x->x∉D/\x<a.tmps.size) {p:List (Nat×Bool)} {q:Bool} {v:AV} {u:Value}
  (hp:(∀ x∈p,x.1∈D)/\(q=true↔tv a p)):yk D' ((S.app δ).put d (gd p q v)) (a.put d u):=by
 have stable:∀ p':List (Nat×Bool),(∀ x∈p',x.1∈D)->(tv (a.put d u) p'↔tv a p'):=by
  intro p' yX
  have:∀ x∈p',(a.put d u).tmps.getD x.1 undef=a.tmps.getD x.1 undef:=by
   intro x hx
   rw [KL a d u x.1 fun y hy=>(hd y hy).2]
   rw [if_neg]
   intro h
   exact (hd x.1 h).1 (yX x hx)
  exact ⟨fun h x hx=>by rw [← this x hx]; exact h x hx,fun h x hx=>by rw [this x hx]; exact h x hx⟩
 refine ⟨fun t p' q' v' ht=> ?_⟩
 rw [JH] at ht
 by_cases h:d=some t
 ·rw [if_pos h] at ht
  simp only [zA] at ht
  have:p'=p/\q'=q:=by
   cases p with
   | nil=>exfalso; revert ht; cases v<;>simp [gd,vj]
   | cons x p=>simp only [gd,AV.g.injEq] at ht; exact ⟨ht.1.symm,ht.2.1.symm⟩
  obtain ⟨rfl,rfl⟩:=this
  exact ⟨fun x hx=>hD _ (hp.1 x hx),hp.2.trans (stable p' hp.1).symm⟩
 ·rw [if_neg h,OY] at ht
  cases hl:lk S.tm t with
  | none=>rw [hl] at ht; cases ht
  | some av =>
   rw [hl] at ht; simp only [Option.map_some,zA] at ht
   cases av with
   | g p0 q0 v0 =>
    simp only [kC,AV.g.injEq] at ht
    obtain ⟨rfl,rfl,_⟩:=ht
    obtain ⟨g1,g2⟩:=hG.g t _ _ _ hl
    exact ⟨fun x hx=>hD _ (g1 x hx),g2.trans (stable _ g1).symm⟩
   | _=>simp [kC] at ht
theorem En (l:List (Nat×AV)) (t:Nat):lk (jb l) t=(lk l t).map vj:=by
 induction l with
 | nil=>rfl
 | cons p l ih =>
  obtain ⟨k,v⟩:=p
  simp only [jb,lk,ih]
  cases Nat.beq k t<;>rfl
theorem Inv.drop (hI:Inv X e0 γ0 w0 S γ a w):Inv X e0 γ0 w0 ⟨jb S.tm,S.vs,S.rs⟩ γ a w:=by
 refine ⟨hI.rel,hI.top,⟨hI.tmp.1,fun t av ht=> ?_⟩,hI.df,hI.fr,hI.i3,hI.i4,hI.i2⟩
 have ht:lk (jb S.tm) t=some av:=ht
 rw [En] at ht
 cases hl:lk S.tm t with
 | none=>rw [hl] at ht; cases ht
 | some av0 =>
  rw [hl] at ht; simp only [Option.map_some,zA] at ht; subst ht
  exact yQ (hI.tmp.2 t av0 hl)
def pQ (S:St):Prop:=∀ t p q v,lk S.tm t≠some (.g p q v)
theorem AY (S:St):pQ ⟨jb S.tm,S.vs,S.rs⟩:=by
 intro t p q v h
 have h:lk (jb S.tm) t=some (.g p q v):=h
 rw [En] at h
 cases hl:lk S.tm t with
 | none=>rw [hl] at h; cases h
 | some av=>rw [hl] at h; simp only [Option.map_some,zA] at h; cases av<;>simp [vj] at h
theorem vZ (h:pQ S):yk [] S a:=⟨fun t p q v hl=>absurd hl (h t p q v)⟩
theorem tw:∀ {l:List Oper} {d:Nat},d∈lJ l↔∃ o∈l,o.dst=some d
 | [],d=>by simp [lJ]
 | o::l,d=>by
  simp only [lJ]
  cases ho:o.dst with
  | none=>simp [tw,ho]
  | some e =>
   simp only [zI,tw,exists_eq_or_imp,ho,zA]
   exact ⟨fun h=>h.elim (fun h=> .inl h.symm) .inr,fun h=>h.elim (fun h=> .inl h.symm) .inr⟩
theorem sO (a b:List Oper):lJ (a++b)=lJ a++lJ b:=by
 induction a with
 | nil=>rfl
 | cons o a ih=>simp only [List.cons_append,lJ,ih]; cases o.dst<;>rfl
theorem Hj:∀ {l:List Oper} {n:Nat},LX n l=true->∀ (i:Nat) (o:Oper),l[i]? =some o->∀ j w,o.guard=some (j,w)->j<n+i
 | [],n,_,i,o,h,_,_,_=>by simp at h
 | x::l,n,hg,i,o,h,j,w,ho=>by
  simp only [LX,zB] at hg
  cases i with
  | zero =>
   simp only [List.getElem?_cons_zero,zA] at h; subst h
   rw [ho] at hg
   have:Nat.ble (j+1) n=true:=hg.1
   have:=zQ this; omega
  | succ i=>have:=Hj hg.2 i o (by simpa using h) j w ho; omega
structure N5 (X:Ctx) (ops:Array Oper):Prop where
 nd:(lJ ops.toList).Nodup
 lt:∀ d∈lJ ops.toList,d<X.nt
 nt:X.nt<=1500
 gd:∀ (i:Nat) (o:Oper),ops[i]? =some o->∀ j w,o.guard=some (j,w)->j<i
theorem Xr {ops:Array Oper} (h:(fC (lJ ops.toList)&&(sJ X.nt (lJ ops.toList)&&(Nat.ble X.nt 1500&&LX 0 ops.toList)))=true):N5 X ops:=by
 simp only [zB] at h
 refine ⟨gO.1 h.1,n9.1 h.2.1,zQ h.2.2.1,fun i o ho j w hg=> ?_⟩
 have:=Hj h.2.2.2 i o (by simpa using ho) j w hg
 omega
variable {R:Type} {E:Env R}
theorem O2 (r0:R) (hX:iH X) (hE:sE X E) {ops:Array Oper} (hr:N5 X ops) {Q:Exit->Act->World->Prop} {s':St} {fp':List Fp} (hQ:∀ γ' a' w',Inv X e0 γ0 w0 s' γ' a' w'->Q .normal a' w') :
  ∀ (l pre:List Oper) (S:St) (γ:Gh) (a:Act) (w:World) (fp:List Fp),ops.toList=pre++l->Inv X e0 γ0 w0 S γ a w->yk (lJ pre) S a ->
   (∀ K:St×List Fp->Option R,(gF X E ops false l S fp fun s f=>K (s,f))=K (s',fp'))->wpOps X.P ops Q (List.range' pre.length l.length) a w
 | [],pre,S,γ,a,w,fp,_,hI,_,hK=>by
  have:=jd r0 hK
  simp only [zG] at this
  exact hQ γ a w (this.1▸hI)
 | o::l,pre,S,γ,a,w,fp,hl,hI,hG,hK=>by
  have TE:ops[pre.length]? =some o:=by
   rw [← Array.getElem?_toList,hl]; simp
  simp only [zR,List.range'_succ,wpOps,TE]
  obtain ⟨oc,rP⟩:=tT (X:=X) hE.Gf ops S o
  cases oc with
  | none =>
   exact False.elim<|bQ r0 (α:=St×List Fp) (y:=(s',fp')) fun K=>by
    have h1:=hK K
    have h2:=rP fun x=>gF X E ops false l ((S.app x.2.2.2).put o.dst (gd x.1 x.2.1 x.2.2.1)) fp fun s f=>K (s,f)
    exact h2.symm.trans h1
  | some x =>
   obtain ⟨p,q,v,δ⟩:=x
   have Rt:∀ K:St×List Fp->Option R,(gF X E ops false l ((S.app δ).put o.dst (gd p q v)) fp fun s f=>K (s,f))=K (s',fp'):=by
    intro K
    have h1:=hK K
    have h2:=rP fun x=>gF X E ops false l ((S.app x.2.2.2).put o.dst (gd x.1 x.2.1 x.2.2.1)) fp fun s f=>K (s,f)
    exact h2.symm.trans h1
   have CP:∀ d,o.dst=some d->d<X.nt:=fun d hd=>hr.lt d (by rw [hl,sO]; simp [lJ,hd])
   have hdn:∀ d,o.dst=some d->d∉lJ pre:=by
    intro d hd hm
    have:=hr.nd
    rw [hl,sO] at this
    exact (List.nodup_append.1 this).2.2 d hm d (by simp [lJ,hd]) rfl
   have xS:∀ x∈lJ pre,x∈lJ (pre++[o]):=fun x hx=>by rw [sO]; exact List.mem_append_left _ hx
   have Ik:∀ j w,o.guard=some (j,w)->∀ oj t,ops[j]? =some oj->oj.dst=some t->t∈lJ pre:=by
    intro j w hg oj t hj ht
    have fW:=hr.gd pre.length o TE j w hg
    have hj2:pre[j]? =some oj:=by
     rw [← Array.getElem?_toList,hl,List.getElem?_append_left fW] at hj; exact hj
    exact tw.2 ⟨oj,List.mem_of_getElem? hj2,ht⟩
   have sv:=Ll r0 hX hE hI.rel hI.top hI.tmp hG (Le.refl S.lk) (fun _ _ h=>h) hr.nt CP Ik (v:=v) (δ:=δ) (p:=p) (q:=q) (s':=S) (fun K=>rP K)
    (next:=wpOps X.P ops Q (List.range' (pre.length+1) l.length)) (Q:=Q)
   have hgp:(∀ x∈p,x.1∈lJ pre)/\(q=true↔tv a p):=(Ll r0 hX hE hI.rel hI.top hI.tmp hG (Le.refl S.lk) (fun _ _ h=>h) hr.nt CP Ik (v:=v) (δ:=δ) (p:=p) (q:=q) (s':=S) (fun K=>rP K)
    (next:=fun _ _=>True) (Q:=Q) (fun _ _ _ _ _=>trivial)).1
   have xU:=(sv fun γ' w' u qd hu=>by
    have:=O2 r0 hX hE hr hQ l (pre++[o]) ((S.app δ).put o.dst (gd p q v)) γ' (a.put o.dst u) w' fp (by rw [hl]; simp) (hI.step qd CP hu)
     (hG.step xS (fun x hx=>⟨hdn x hx,Nat.lt_of_lt_of_le (CP x hx) hI.tmp.1⟩) hgp) Rt
    simpa using this).2
   cases hw:Region.wanted o (yielded ops a.tmps) with
   | true=>rw [hw] at xU; simp only [if_true] at xU ⊢; exact .inl xU
   | false=>rw [hw] at xU; simpa using xU
end
end Go.Soft
namespace Go.Soft
open Go
variable {X:Ctx} {m M:Lk} {γ γ':Gh} {w w':World} {ρ:Operand->Value} {S T:St} {δ δ':Dl}
theorem wX {α:Type} {l:List (Nat×α)} {k:Nat} (h:k∉keys l):fx l k=none:=by
 induction l with
 | nil=>rfl
 | cons p l ih =>
  obtain ⟨j,v⟩:=p
  simp only [keys,zI,not_or] at h
  simp only [fx,ih h.2]
  rw [if_neg (Ne.symm h.1)]
theorem B8 {α:Type} {l:List (Nat×α)} {k:Nat} {v:α} (h:fx l k=some v):(k,v)∈l:=by
 induction l with
 | nil=>cases h
 | cons p l ih =>
  obtain ⟨j,u⟩:=p
  simp only [fx] at h
  cases hz:fx l k with
  | some x=>simp only [hz,zA] at h; subst h; exact zJ _ (ih hz)
  | none =>
   simp only [hz] at h
   by_cases hj:j=k
   ·rw [if_pos hj] at h; cases h; subst hj; exact zO
   ·rw [if_neg hj] at h; cases h
theorem xf {a:Nat} {l:List Nat} (h:a∉l):cp a l=false:=by
 cases hh:cp a l with
 | false=>rfl
 | true=>exact absurd (ft.1 hh) h
theorem tB {l m:List Nat}:sb l m=true↔∃ x∈l,x∈m:=by
 induction l with
 | nil=>simp [sb]
 | cons x l ih =>
  simp only [sb]
  cases h:cp x m with
  | true=>exact ⟨fun _=>⟨x,zO,ft.1 h⟩,fun _=>rfl⟩
  | false =>
   have:x∉m:=fun hm=>by rw [ft.2 hm] at h; cases h
   simp only [ih,zI,exists_eq_or_imp,this,false_or]
theorem RI {l m:List Nat} (h:∀ x∈l,x∉m):sb l m=false:=by
 cases hh:sb l m with
 | false=>rfl
 | true=>obtain ⟨x,h1,h2⟩:=tB.1 hh; exact absurd h2 (h x h1)
theorem Mg {r:Nat}:r∈δ.kj↔r∈keys δ.mv\/r∈δ.kr\/r∈δ.ke\/r∈δ.kn:=by simp [Dl.kj]
theorem qw {r:Nat} (h:r∉δ.kj):lk δ.mv r=none/\cp r δ.kr=false/\cp r δ.ke=false/\cp r δ.kn=false:=by
 rw [Mg] at h
 simp only [not_or] at h
 exact ⟨cL.2 h.1,xf h.2.1,xf h.2.2.1,xf h.2.2.2⟩
theorem oW {x:Cv} (hr:∀ r∈x.rk,r∉δ.kj) (hv:∀ k∈x.vk,k∉δ.kv):δ.map x=x:=by
 cases x with
 | pv v c=>simp only [Dl.map,xf (hv v (by simp [Cv.vk]))]
 | fn f l=>simp only [Dl.map,RI (fun k hk=>hv k (by simpa [Cv.vk] using hk))]
 | sw r=>obtain ⟨a,b,c,d⟩:=qw (hr r (by simp [Cv.rk,Cv.row])); simp only [Dl.map,a,b]
 | sl r o n=>obtain ⟨a,b,c,d⟩:=qw (hr r (by simp [Cv.rk,Cv.row])); simp only [Dl.map,a,b,c]
 | pe r o n=>obtain ⟨a,b,c,d⟩:=qw (hr r (by simp [Cv.rk,Cv.row])); simp only [Dl.map,a,b,c]
 | nw r _ _=>obtain ⟨a,b,c,d⟩:=qw (hr r (by simp [Cv.rk,Cv.row])); simp only [Dl.map,a,b,c,d]
 | ns r _ _ _ _=>obtain ⟨a,b,c,d⟩:=qw (hr r (by simp [Cv.rk,Cv.row])); simp only [Dl.map,a,b,c,d]
 | pn r _ _ _ _=>obtain ⟨a,b,c,d⟩:=qw (hr r (by simp [Cv.rk,Cv.row])); simp only [Dl.map,a,b,c,d]
 | _=>rfl
theorem EN {l:List (Nat×(Nat×Nat×Nat))} {r d e c:Nat} (h:lk l r=some (d,e,c)):d∈SE l:=by
 have:=cU h
 clear h
 induction l with
 | nil=>cases this
 | cons p l ih =>
  obtain ⟨j,d',ec⟩:=p
  rcases zI.1 this with h | h
  ·simp only [zG] at h; obtain ⟨_,rfl,_⟩:=h; exact zO
  ·exact zJ _ (ih h)
theorem IJ (x:Cv):(∀ r∈(δ.map x).rk,r∈x.rk\/r∈SE δ.mv)/\(∀ k∈(δ.map x).vk,k∈x.vk):=by
 have un:∀ y:Cv,(∀ r∈Cv.un.rk,r∈y.rk\/r∈SE δ.mv)/\(∀ k∈Cv.un.vk,k∈y.vk):=fun y=>⟨fun r h=>by simp [Cv.rk,Cv.row] at h,fun k h=>by simp [Cv.vk] at h⟩
 have me:∀ y:Cv,(∀ r∈y.rk,r∈y.rk\/r∈SE δ.mv)/\(∀ k∈y.vk,k∈y.vk):=fun y=>⟨fun r h=> .inl h,fun k h=>h⟩
 cases x with
 | pv v c=>simp only [Dl.map]; split<;>first | exact un _ | exact me _
 | fn f l=>simp only [Dl.map]; split<;>first | exact un _ | exact me _
 | sw r =>
  simp only [Dl.map]; split
  ·rename_i d e c h; exact ⟨fun r hr=> .inr (by simp [Cv.rk,Cv.row] at hr; rw [hr]; exact EN h),fun k hk=>by simp [Cv.vk] at hk⟩
  ·split<;>first | exact un _ | exact me _
 | sl r o n =>
  simp only [Dl.map]; split
  ·rename_i d e c h; exact ⟨fun r hr=> .inr (by simp [Cv.rk,Cv.row] at hr; rw [hr]; exact EN h),fun k hk=>by simp [Cv.vk] at hk⟩
  ·split<;>first | exact un _ | exact me _
 | pe r o n =>
  simp only [Dl.map]; split
  ·rename_i d e c h; exact ⟨fun r hr=> .inr (by simp [Cv.rk,Cv.row] at hr; rw [hr]; exact EN h),fun k hk=>by simp [Cv.vk] at hk⟩
  ·split<;>first | exact un _ | exact me _
 | nw r _ _ =>
  simp only [Dl.map]; split
  ·exact un _
  ·split<;>first | exact un _ | exact me _
 | ns r _ _ _ _ =>
  simp only [Dl.map]; split
  ·exact un _
  ·split<;>first | exact un _ | exact me _
 | pn r _ _ _ _ =>
  simp only [Dl.map]; split
  ·exact un _
  ·split<;>first | exact un _ | exact me _
 | _=>exact me _
theorem OZ (h:∀ r,(r∈SE δ.mv\/r∈δ.kj)->¬(r∈SE δ'.mv\/r∈δ'.kj)) (x:Cv):δ.map (δ'.map x)=δ'.map (δ.map x):=by
 have row:∀ r,x.rk=[r]->x.vk=[]->δ.map (δ'.map x)=δ'.map (δ.map x):=by
  intro r hr hv
  have novk:∀ (d:Dl) (k:Nat),k∈(d.map x).vk->False:=fun d k hk=>by have:=(IJ (δ:=d) x).2 k hk; rw [hv] at this; simp at this
  by_cases h1:r∈δ.kj
  ·have h2:r∉δ'.kj:=fun hm=>h r (.inr h1) (.inr hm)
   have e1:δ'.map x=x:=oW (fun y hy=>by rw [hr] at hy; simp at hy; rw [hy]; exact h2) (fun k hk=>by rw [hv] at hk; simp at hk)
   rw [e1]
   refine (oW (fun y hy=> ?_) fun k hk=>(novk δ k hk).elim).symm
   rcases (IJ (δ:=δ) x).1 y hy with hy | hy
   ·rw [hr] at hy; simp at hy; rw [hy]; exact h2
   ·exact fun hm=>h y (.inl hy) (.inr hm)
  ·have e1:δ.map x=x:=oW (fun y hy=>by rw [hr] at hy; simp at hy; rw [hy]; exact h1) (fun k hk=>by rw [hv] at hk; simp at hk)
   rw [e1]
   refine oW (fun y hy=> ?_) fun k hk=>(novk δ' k hk).elim
   rcases (IJ (δ:=δ') x).1 y hy with hy | hy
   ·rw [hr] at hy; simp at hy; rw [hy]; exact h1
   ·exact fun hm=>h y (.inr hm) (.inl hy)
 cases x with
 | pv v c =>
  simp only [Dl.map]
  cases h1:cp v δ.kv<;>cases h2:cp v δ'.kv<;>simp [Dl.map,h1,h2]
 | fn f l =>
  simp only [Dl.map]
  cases h1:sb l δ.kv<;>cases h2:sb l δ'.kv<;>simp [Dl.map,h1,h2]
 | sw r=>exact row r rfl rfl
 | sl r _ _=>exact row r rfl rfl
 | pe r _ _=>exact row r rfl rfl
 | nw r _ _=>exact row r rfl rfl
 | ns r _ _ _ _=>exact row r rfl rfl
 | pn r _ _ _ _=>exact row r rfl rfl
 | _=>rfl
theorem Bj {l:List Cv} {r:Nat}:r∈vA l↔∃ x∈l,r∈x.rk:=by
 induction l with
 | nil=>simp [vA]
 | cons x l ih=>simp [vA,ih]
theorem Bs {l:List Cv} {r:Nat}:r∈vT l↔∃ x∈l,r∈x.vk:=by
 induction l with
 | nil=>simp [vT]
 | cons x l ih=>simp [vT,ih]
theorem PN {l:List (Bool×List Cv)} {x:Cv}:x∈PR l↔∃ p∈l,x∈p.2:=by
 induction l with
 | nil=>simp [PR]
 | cons p l ih=>obtain ⟨b,cs⟩:=p; simp [PR,ih]
theorem uQ {f:Cv->Cv} {l:List Cv} (h:∀ x∈l,f x=x):l.map f=l:=by
 induction l with
 | nil=>rfl
 | cons x l ih=>rw [List.map_cons,h x zO,ih fun y hy=>h y (zJ _ hy)]
theorem yS {f:Cv->Cv}:∀ {v:AV},(∀ x∈v.Du,f x=x)->kC f v=v
 | .c x,h=>by simp only [kC]; rw [h x (by simp [AV.Du])]
 | .a l,h=>by simp only [kC]; rw [uQ (l:=l) h]
 | .t l,h=>by
  simp only [kC]
  congr 1
  have:∀ p∈l,(p.1,p.2.map f)=p:=fun p hp=>by rw [uQ fun x hx=>h x (PN.2 ⟨p,hp,hx⟩)]
  clear h
  induction l with
  | nil=>rfl
  | cons p l ih=>rw [List.map_cons,this p zO,ih fun y hy=>this y (zJ _ hy)]
 | .g p q v,h=>by simp only [kC]; rw [yS (v:=v) h]
theorem Eg {f g:Cv->Cv} (h:∀ x,f (g x)=g (f x)):∀ v:AV,kC f (kC g v)=kC g (kC f v)
 | .c x=>by simp only [kC,h]
 | .a l=>by simp only [kC,List.map_map]; congr 1; exact List.map_congr_left fun x _=>h x
 | .t l=>by
  simp only [kC,List.map_map]; congr 1
  refine List.map_congr_left fun p _=> ?_
  simp only [Function.comp,List.map_map]; congr 1
  exact List.map_congr_left fun x _=>h x
 | .g p q v=>by simp only [kC]; rw [Eg h v]
structure L1 (R V:List Nat) (l:List Cv):Prop where
 r:∀ r∈vA l,r∉R
 v:∀ k∈vT l,k∉V
theorem L1.cell {l:List Cv} (h:L1 δ.kj δ.kv l):∀ x∈l,δ.map x=x:=fun x hx =>
 oW (fun r hr=>h.r r (Bj.2 ⟨x,hx,hr⟩)) fun k hk=>h.v k (Bs.2 ⟨x,hx,hk⟩)
theorem L1.list {l:List Cv} (h:L1 δ.kj δ.kv l):l.map δ.map=l:=uQ h.cell
theorem L1.val {v:AV} (h:L1 δ.kj δ.kv v.Du):kC δ.map v=v:=yS h.cell
structure C8 (S T:St):Prop where
 t:∀ t,lk S.tm t=lk T.tm t
 r:∀ k,S.lk.r k=T.lk.r k
 v:∀ k,S.lk.v k=T.lk.v k
theorem C8.refl (S:St):C8 S S:=⟨fun _=>rfl,fun _=>rfl,fun _=>rfl⟩
theorem C8.symm (h:C8 S T):C8 T S:=⟨fun t=>(h.t t).symm,fun t=>(h.r t).symm,fun t=>(h.v t).symm⟩
theorem C8.trans {U:St} (h:C8 S T) (h':C8 T U):C8 S U:=⟨fun t=>(h.t t).trans (h'.t t),fun t=>(h.r t).trans (h'.r t),fun t=>(h.v t).trans (h'.v t)⟩
theorem C8.lk (h:C8 S T):S.lk=T.lk:=by
 have h1:S.lk.r=T.lk.r:=funext h.r
 have h2:S.lk.v=T.lk.v:=funext h.v
 cases hs:S.lk; cases ht:T.lk
 rw [hs,ht] at h1 h2
 simp only at h1 h2
 rw [h1,h2]
theorem Inv.eqv {e0:Lk} {γ0:Gh} {w0:World} {a:Act} (h:Inv X e0 γ0 w0 S γ a w) (he:C8 S T):Inv X e0 γ0 w0 T γ a w:=by
 have hl:=he.lk
 refine ⟨hl▸h.rel,h.top,⟨h.tmp.1,fun t av ht=> ?_⟩,h.df,h.fr,by rw [← hl]; exact h.i3,h.i4,h.i2⟩
 rw [← he.t] at ht
 rw [← hl]
 exact h.tmp.2 t av ht
theorem yk.eqv {D:List Nat} {a:Act} (h:yk D S a) (he:C8 S T):yk D T a:=⟨fun t p q v ht=>h.g t p q v (by rw [he.t]; exact ht)⟩
structure Rec where
 o:Oper
 p:List (Nat×Bool)
 q:Bool
 v:AV
 δ:Dl
def lE (S:St) (x:Rec):St:=(S.app x.δ).put x.o.dst (gd x.p x.q x.v)
theorem yJ (S:St) (x:Rec) (t:Nat):lk (lE S x).tm t=if x.o.dst=some t then some (gd x.p x.q x.v) else (lk S.tm t).map (kC x.δ.map):=by
 simp only [lE,JH,OY]
theorem yP (S:St) (x:Rec) (k:Nat):(lE S x).lk.r k=match fx x.δ.rs k with | some r=>r | none=>S.lk.r k:=by
 simp only [lE,IW,kT]; cases fx x.δ.rs k<;>rfl
theorem yy (S:St) (x:Rec) (k:Nat):(lE S x).lk.v k=match fx x.δ.vs k with | some cs=>some cs | none=>(S.lk.v k).map (List.map x.δ.map):=by
 simp only [lE,IW,o8]; cases fx x.δ.vs k<;>rfl
theorem Oz (h:C8 S T) (x:Rec):C8 (lE S x) (lE T x) :=
 ⟨fun t=>by rw [yJ,yJ,h.t],fun k=>by rw [yP,yP,h.r],fun k=>by rw [yy,yy,h.v]⟩
def Rec.wr (x:Rec):List Nat:=SE x.δ.mv++(x.δ.kj++keys x.δ.rs)
def Rec.wv (x:Rec):List Nat:=x.δ.kv++keys x.δ.vs
def Rec.ro (x:Rec):List Nat:=vA x.v.Du++vA (vcs x.δ.vs)
def Rec.vo (x:Rec):List Nat:=vT x.v.Du++vT (vcs x.δ.vs)
structure Yc (x y:Rec):Prop where
 d:∀ t,x.o.dst=some t->y.o.dst≠some t
 w:∀ r∈x.wr,r∉y.wr
 v:∀ k∈x.wv,k∉y.wv
 xr:∀ r∈x.wr,r∉y.ro
 xv:∀ k∈x.δ.kv,k∉y.vo
 yr:∀ r∈y.wr,r∉x.ro
 yv:∀ k∈y.δ.kv,k∉x.vo
theorem VG (p:List (Nat×Bool)) (q:Bool) (v:AV):∀ x∈(gd p q v).Du,x∈v.Du\/x= .un:=by
 intro x hx
 cases p with
 | nil=>cases v<;>simp_all [gd,vj,AV.Du]
 | cons y p=>exact .inl hx
theorem Rec.far (x y:Rec) (h1:∀ r∈y.wr,r∉x.ro) (h2:∀ k∈y.δ.kv,k∉x.vo):kC y.δ.map (gd x.p x.q x.v)=gd x.p x.q x.v/\∀ k cs,fx x.δ.vs k=some cs->cs.map y.δ.map=cs:=by
 refine ⟨yS fun c hc=> ?_,fun k cs je=>uQ fun c hc=> ?_⟩
 ·rcases VG _ _ _ c hc with hc | rfl
  ·exact oW (fun r hr hk=>h1 r (by simp [Rec.wr,hk]) (by simp only [Rec.ro,zH]; exact .inl (Bj.2 ⟨c,hc,hr⟩)))
    fun k hk hm=>h2 k hm (by simp only [Rec.vo,zH]; exact .inl (Bs.2 ⟨c,hc,hk⟩))
  ·rfl
 ·have eP:c∈vcs x.δ.vs:=by
   have:=B8 je
   revert this
   generalize x.δ.vs=l
   induction l with
   | nil=>intro h; cases h
   | cons p l ih =>
    obtain ⟨j,l'⟩:=p
    intro h
    simp only [vcs,zH]
    rcases zI.1 h with h | h
    ·simp only [zG] at h; exact .inl (h.2▸hc)
    ·exact .inr (ih h)
  exact oW (fun r hr hk=>h1 r (by simp [Rec.wr,hk]) (by simp only [Rec.ro,zH]; exact .inr (Bj.2 ⟨c,eP,hr⟩)))
    fun k hk hm=>h2 k hm (by simp only [Rec.vo,zH]; exact .inr (Bs.2 ⟨c,eP,hk⟩))
theorem L4 (S:St) {x y:Rec} (h:Yc x y):C8 (lE (lE S x) y) (lE (lE S y) x):=by
 obtain ⟨x1,x2⟩:=Rec.far x y h.yr h.yv
 obtain ⟨y1,y2⟩:=Rec.far y x h.xr h.xv
 have Ie:∀ c,y.δ.map (x.δ.map c)=x.δ.map (y.δ.map c):=fun c=>(OZ (δ:=x.δ) (δ':=y.δ) (fun r hr cC=>h.w r (by simp [Rec.wr]; rcases hr with hr | hr<;>simp [hr]) (by simp [Rec.wr]; rcases cC with hr | hr<;>simp [hr])) c).symm
 refine ⟨fun t=> ?_,fun k=> ?_,fun k=> ?_⟩
 ·simp only [yJ]
  by_cases hx:x.o.dst=some t
  ·have hy:=h.d t hx
   simp only [hx,hy,if_true,if_false,Option.map_some,x1]
  ·by_cases hy:y.o.dst=some t
   ·simp only [hx,hy,if_true,if_false,Option.map_some,y1]
   ·simp only [hx,hy,if_false,Option.map_map]
    congr 1
    exact funext fun v=>Eg Ie v
 ·simp only [yP]
  cases hx:fx x.δ.rs k with
  | none=>rfl
  | some r =>
   have:k∉keys y.δ.rs:=fun hk=>h.w k (by simp only [Rec.wr,zH]; exact .inr (.inr (mem_keys (B8 hx)))) (by simp only [Rec.wr,zH]; exact .inr (.inr hk))
   rw [wX this]
 ·simp only [yy]
  cases hx:fx x.δ.vs k with
  | none =>
   cases hy:fx y.δ.vs k with
   | none =>
    simp only [Option.map_map]
    congr 1
    funext l
    simp only [Function.comp,List.map_map]
    exact List.map_congr_left fun c _=>Ie c
   | some cs=>simp only [Option.map_some,y2 k cs hy]
  | some cs =>
   have:k∉keys y.δ.vs:=fun hk=>h.v k (by simp only [Rec.wv,zH]; exact .inr (mem_keys (B8 hx))) (by simp only [Rec.wv,zH]; exact .inr hk)
   rw [wX this]
   simp only [Option.map_some,x2 k cs hx]
def sn (L:Nat->Bool):Nat->St->List Rec->St
 | _,S,[]=>S
 | n,S,x::l=>sn L (n+1) (bif L n then lE S x else S) l
theorem K0 (L:Nat->Bool):∀ (l:List Rec) (n:Nat) {S T:St},C8 S T->C8 (sn L n S l) (sn L n T l)
 | [],_,_,_,h=>h
 | x::l,n,S,T,h=>by
  simp only [sn]
  refine K0 L l (n+1) ?_
  cases L n
  ·exact h
  ·exact Oz h x
theorem qD (L:Nat->Bool):∀ (l l':List Rec) (n:Nat) (S:St),sn L n S (l++l')=sn L (n+l.length) (sn L n S l) l'
 | [],_,_,_=>rfl
 | x::l,l',n,S=>by
  simp only [List.cons_append,sn,zR]
  rw [qD L l l' (n+1),Nat.add_assoc,Nat.add_comm 1]
theorem yM {L L':Nat->Bool}:∀ (l:List Rec) (n:Nat) (S:St),(∀ k,n<=k->k<n+l.length->L k=L' k)->sn L n S l=sn L' n S l
 | [],_,_,_=>rfl
 | x::l,n,S,h=>by
  simp only [sn]
  rw [h n (Nat.le_refl n) (by simp),yM l (n+1) _ fun k h1 h2=>h k (by omega) (by simp; omega)]
theorem Fj {L:Nat->Bool}:∀ (l:List Rec) (n:Nat) (S:St),(∀ k,n<=k->k<n+l.length->L k=true)->sn L n S l=l.foldl lE S
 | [],_,_,_=>rfl
 | x::l,n,S,h=>by
  simp only [sn,List.foldl_cons]
  rw [h n (Nat.le_refl n) (by simp),Fj l (n+1) _ fun k h1 h2=>h k (by omega) (by simp; omega)]
  rfl
theorem HS {L:Nat->Bool}:∀ (l:List Rec) (n:Nat) (S:St),(∀ k,n<=k->k<n+l.length->L k=false)->sn L n S l=S
 | [],_,_,_=>rfl
 | x::l,n,S,h=>by
  simp only [sn]
  rw [h n (Nat.le_refl n) (by simp)]
  exact HS l (n+1) _ fun k h1 h2=>h k (by omega) (by simp; omega)
theorem Ha (L:Nat->Bool) (x:Rec):∀ (l:List Rec) (n:Nat) (S:St),(∀ (k:Nat) (y:Rec),l[k]? =some y->L (n+k)=true->Yc x y)->C8 (sn L n (lE S x) l) (lE (sn L n S l) x)
 | [],_,_,_=>C8.refl _
 | y::l,n,S,h=>by
  simp only [sn]
  have ih:=fun T=>Ha L x l (n+1) T fun k z hk hL=>h (k+1) z (by simpa using hk) (by rw [← hL]; congr 1; omega)
  cases hL:L n with
  | false=>exact ih S
  | true=>exact (K0 L l (n+1) (L4 S (h 0 y rfl (by simpa using hL)))).trans (ih _)
structure Gi (KT KV KR:List Nat) (S T:St):Prop where
 t:∀ t∈KT,lk S.tm t=lk T.tm t
 v:∀ k∈KV,S.lk.v k=T.lk.v k
 r:∀ k∈KR,S.lk.r k=T.lk.r k
variable {KT KV KR:List Nat}
theorem Gi.both (h:Gi KT KV KR S T) (x:Rec):Gi KT KV KR (lE S x) (lE T x) :=
 ⟨fun t ht=>by rw [yJ,yJ,h.t t ht],fun k hk=>by rw [yy,yy,h.v k hk],fun k hk=>by rw [yP,yP,h.r k hk]⟩
structure Mq (KT KV KR:List Nat) (S:St) (x:Rec):Prop where
 d:∀ t∈KT,x.o.dst≠some t
 t:∀ t∈KT,∀ v,lk S.tm t=some v->L1 x.δ.kj x.δ.kv v.Du
 k:∀ k∈KV,k∉keys x.δ.vs
 v:∀ k∈KV,∀ cs,S.lk.v k=some cs->L1 x.δ.kj x.δ.kv cs
 r:∀ k∈KR,k∉keys x.δ.rs
theorem Mq.agr {x:Rec} (h:Mq KT KV KR S x):Gi KT KV KR (lE S x) S:=by
 refine ⟨fun t ht=> ?_,fun k hk=> ?_,fun k hk=> ?_⟩
 ·rw [yJ,if_neg (h.d t ht)]
  cases hl:lk S.tm t with
  | none=>rfl
  | some v=>simp only [Option.map_some,(h.t t ht v hl).val]
 ·rw [yy,wX (h.k k hk)]
  cases hl:S.lk.v k with
  | none=>rfl
  | some cs=>simp only [Option.map_some,(h.v k hk cs hl).list]
 ·rw [yP,wX (h.r k hk)]
theorem Gi.trans {U:St} (h:Gi KT KV KR S T) (h':Gi KT KV KR T U):Gi KT KV KR S U:=⟨fun t ht=>(h.t t ht).trans (h'.t t ht),fun t ht=>(h.v t ht).trans (h'.v t ht),fun t ht=>(h.r t ht).trans (h'.r t ht)⟩
theorem Gi.symm (h:Gi KT KV KR S T):Gi KT KV KR T S:=⟨fun t ht=>(h.t t ht).symm,fun t ht=>(h.v t ht).symm,fun t ht=>(h.r t ht).symm⟩
theorem Mq.congr {x:Rec} (h:Mq KT KV KR S x) (ha:Gi KT KV KR S T):Mq KT KV KR T x :=
 ⟨h.d,fun t ht v hv=>h.t t ht v (by rw [ha.t t ht]; exact hv),h.k,fun k hk cs hc=>h.v k hk cs (by rw [ha.v k hk]; exact hc),h.r⟩
theorem Ku (L:Nat->Bool):∀ (l:List Rec) (n:Nat) (S T:St),Gi KT KV KR S T->(∀ (k:Nat) (x:Rec),l[k]? =some x->L (n+k)=false->Mq KT KV KR ((l.take k).foldl lE S) x) ->
  Gi KT KV KR (l.foldl lE S) (sn L n T l)
 | [],_,_,_,h,_=>h
 | x::l,n,S,T,h,ho=>by
  simp only [List.foldl_cons,sn]
  refine Ku L l (n+1) (lE S x) _ ?_ fun k y hk hL=> ?_
  ·cases hL:L n with
   | true=>exact h.both x
   | false=>exact ((ho 0 x rfl (by simpa using hL)).agr).trans h
  ·have:=ho (k+1) y (by simpa using hk) (by rw [← hL]; congr 1; omega)
   simpa using this
theorem Kw (L:Nat->Bool):∀ (l:List Rec) (n:Nat) (S T:St),Gi KT KV KR S T->(∀ (k:Nat) (x:Rec),l[k]? =some x->L (n+k)=true->Mq KT KV KR S x)->Gi KT KV KR S (sn L n T l)
 | [],_,_,_,h,_=>h
 | x::l,n,S,T,h,ho=>by
  simp only [sn]
  refine Kw L l (n+1) S _ ?_ fun k y hk hL=>ho (k+1) y (by simpa using hk) (by rw [← hL]; congr 1; omega)
  cases hL:L n with
  | true=>exact h.trans (((ho 0 x rfl (by simpa using hL)).congr h).agr).symm
  | false=>exact h
theorem EW {α:Type} (ks:List Nat) (l:List (Nat×α)) (k:Nat):lk (Co ks l) k=if k∈ks then lk l k else none:=by
 induction l with
 | nil=>simp [Co,lk]
 | cons p l ih =>
  obtain ⟨j,v⟩:=p
  simp only [Co]
  cases h:cp j ks with
  | true =>
   simp only [lk,ih]
   cases hj:Nat.beq j k with
   | true=>have:=aM hj; subst this; simp [ft.1 h]
   | false=>rfl
  | false =>
   simp only [ih,lk]
   cases hj:Nat.beq j k with
   | true =>
    have:=aM hj; subst this
    have:j∉ks:=fun hm=>by rw [ft.2 hm] at h; cases h
    simp [this]
   | false=>rfl
end Go.Soft
