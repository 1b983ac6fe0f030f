import Derived.Test.YthkhihfodaobkaaGreatGA
import Derived.Laws.IdiomCopy
set_option linter.constructorNameAsVariable false
set_option linter.unusedSimpArgs false
set_option linter.unusedVariables false
namespace Go.Soft
open Go
variable {X:Ctx} {m M:Lk} {γ γ':Gh} {w w':World} {ρ:Operand->Value} {S:St} {δ:Dl}
theorem repl_at {α:Type} (a b c:List α) (h:b.length<=c.length):Soft.repl (a++c) a.length b=a++(b++c.drop b.length):=by
 simp only [Soft.repl,List.take_left,List.append_assoc,List.drop_append]
 congr 2
 simp [List.drop_of_length_le]
theorem fill_all {z:Nat}:∀ (parts:List (Nat×Value)) (k:Nat) (cells:Array Value) (pre rest:List Value),(∀ j p,parts[j]? =some p->p.1=k+j/\p.2.cells.size=z)->cells.toList=pre++rest->pre.length=k*z ->
  rest.length=parts.length*z->∃ arr,Instr.fill (fun i=>some (i*z,z)) cells parts=some arr/\arr.toList=pre++(parts.flatMap fun p=>p.2.cells.toList):=by
 intro parts
 induction parts with
 | nil=>intro k cells pre rest _ hc _ hr; exact ⟨cells,rfl,by rw [hc]; simp at hr; simp [hr]⟩
 | cons p parts ih =>
  intro k cells pre rest hp hc hpre hrest
  obtain ⟨i,v⟩:=p
  obtain ⟨h1,h2⟩:=hp 0 (i,v) rfl
  simp only [Nat.add_zero] at h1
  subst h1
  simp only [List.length_cons,Nat.add_mul] at hrest
  have hsz:cells.size=pre.length+rest.length:=by rw [← Array.length_toList,hc,List.length_append]
  simp only [Instr.fill]
  rw [if_neg (by simp [h2]; omega)]
  have hf:=fold_set (i*z) v.cells.toList 0 cells (by simp [h2]; omega)
  rw [Nat.add_zero,hc] at hf
  have e:(Array.foldl (fun cs (x:Value×Nat)=>cs.setIfInBounds (i*z+x.2) x.1) cells v.cells.zipIdx).toList=(pre++v.cells.toList)++rest.drop z:=by
   rw [← Array.foldl_toList,Array.toList_zipIdx]
   rw [hf,← hpre,repl_at _ _ _ (by simp [h2]; omega)]
   simp [h2]
  obtain ⟨arr,ha,hl⟩:=ih (i+1) _ (pre++v.cells.toList) (rest.drop z) (fun j p hj=>by
   obtain ⟨h3,h4⟩:=hp (j+1) p (by simpa using hj)
   exact ⟨by omega,h4⟩) e (by simp [hpre,h2,Nat.add_mul]) (by simp; omega)
  exact ⟨arr,ha,by rw [hl]; simp⟩
theorem lit_run {P:Program} {t e:TypeId} {i:TypeInfo} {zv:Value} {z n:Nat} {parts:Array (Nat×Value)} (hu:P.underlying t=some (.slice e)) (hi:P.info? e=some i) (hz:i.zero=some zv) (hs:i.size=z) (hzp:0<z)
  (hsmall:n*z<=2 ^ 24) (hn:parts.size=n) (hp:∀ (j:Nat) (p:Nat×Value),parts.toList[j]? =some p->p.1=j/\p.2.cells.size=z) :
  (Instr.buildSlice t n parts).run P w= .ok (.slice (some ⟨w.heap.size,0,none⟩) n n) (w.alloc (.cells (parts.toList.flatMap fun p=>p.2.cells.toList).toArray e)):=by
 subst hs
 by_cases h0:n=0
 ·subst h0
  have:parts= #[]:=Array.eq_empty_of_size_eq_zero hn
  subst this
  simp [Instr.buildSlice,run_underlying hu,run_size hi,Instr.fill,newRow]
  rw [show Array.map (fun _=>(default:Value)) (Array.range 0)= #[] by simp [Array.range]]
 ·have hpos:¬ n*i.size=0:=by
   intro h; rcases Nat.mul_eq_zero.1 h with h | h<;>omega
  obtain ⟨arr,ha,hl⟩:=fill_all (z:=i.size) parts.toList 0 ((Array.range (n*i.size)).map (zv.cells[· % zv.cells.size]!)) [] _ (fun j p hj=>by simpa using hp j p hj) (by simp; rfl) (by simp) (by simp [hn])
  have harr:arr=(parts.toList.flatMap fun p=>p.2.cells.toList).toArray:=by apply Array.toList_inj.1; rw [hl]; simp
  rw [run_buildSlice w t e n parts arr i zv hu hi hz (by omega) hpos ha,harr]
inductive RelLL (M:Lk) (γ:Gh):List (List Cv)->List (List Value)->Prop
 | nil:RelLL M γ [] []
 | cons {x:List Cv} {v:List Value} {l:List (List Cv)} {u:List (List Value)}:RelL M γ x v->RelLL M γ l u->RelLL M γ (x::l) (v::u)
theorem newEls_ok (hm:Le m M) (hR:Rel X M γ w) {key ow':Nat} (how:ow'=2\/ow'=4\/ow'=5) {O':OM} {w':World} {τ:Ty} :
  ∀ (l:List (List Cv)) (vss:List (List Value)) (e0:Nat) (b:Els τ),RelLL M γ l vss->m.newEls τ e0 l=some b->ow'<=b.lv->(τ.isByte=true->b.ok=true)->AbsO M γ w O' w' l.flatten b.mv b.sh key ow' ->
   b.ys.length=l.length/\(∀ (j:Nat) (vs:List Value),vss[j]? =some vs->vs.length=sz τ)/\vss.length=l.length /\
   ∀ (j c:Nat) (ct:Ct),j<l.length->(cells τ (b.ys.getD j (dflt τ)))[c]? =some ct->∃ u,vss.flatten[j*sz τ+c]? =some u/\CellR X O' w' (nesC key (e0+j) c ow') ct u:=by
 intro l
 induction l with
 | nil =>
  intro vss e0 b hr hb _ _ _
  simp only [Lk.newEls,Option.some.injEq] at hb; subst hb
  cases hr
  simp
 | cons x l ih =>
  intro vss e0 b hr hb hle hok hO
  cases hr with
  | cons hx hl =>
   rename_i v u
   simp only [Lk.newEls] at hb
   cases ha:m.absorbs e0 0 x with
   | none=>simp [ha] at hb
   | some a =>
    cases hrest:m.newEls τ (e0+1) l with
    | none=>simp [ha,hrest] at hb
    | some b2 =>
     cases hy:mkEl τ a.cts with
     | none=>simp [ha,hrest,hy] at hb
     | some y =>
      simp only [ha,hrest,hy,Option.some.injEq] at hb; subst hb
      simp only at hle hok hO ⊢
      obtain ⟨i1,i2,i3,i4⟩:=ih u (e0+1) b2 hl hrest (by omega) (fun h=>by have:=hok h; simp only [Bool.and_eq_true] at this; exact this.2)
       (hO.mono (fun x hx=>by simp [hx]) (fun p hp=>by simp [hp]) (fun p hp=>by simp [hp]))
      have hcy:=mkEl_cells hy (fun h=>by have:=hok h; simp only [Bool.and_eq_true] at this; exact this.1)
      obtain ⟨h1,h2⟩:=absorbs_ok hm hR how x v 0 a hx ha (by omega) (hO.mono (fun x hx=>by simp [hx]) (fun p hp=>by simp [hp]) (fun p hp=>by simp [hp]))
      have hvl:v.length=sz τ:=by rw [← hx.length,← h1,← hcy,cells_length]
      refine ⟨by simp [i1],fun j vs hj=> ?_,by simp [i3],fun j c ct hj hct=> ?_⟩
      ·cases j with
       | zero=>simp at hj; subst hj; exact hvl
       | succ j=>exact i2 j vs (by simpa using hj)
      ·cases j with
       | zero =>
        simp only [List.getD_cons_zero,hcy] at hct
        obtain ⟨uu,hu,hcell⟩:=h2 c ct hct
        have hc:c<v.length:=(List.getElem?_eq_some_iff.1 hu).1
        exact ⟨uu,by simp only [List.flatten_cons,Nat.zero_mul,Nat.zero_add]; rw [List.getElem?_append_left hc]; exact hu,by simpa using hcell⟩
       | succ j =>
        simp only [List.getD_cons_succ] at hct
        obtain ⟨uu,hu,hcell⟩:=i4 j c ct (by simpa using hj) hct
        refine ⟨uu,?_,by rw [show e0+(j+1)=e0+1+j by omega]; exact hcell⟩
        rw [List.flatten_cons,List.getElem?_append_right (by rw [hvl,Nat.add_mul]; omega),hvl,← hu]
        congr 1; rw [Nat.add_mul]; omega
theorem newEls_lv {τ:Ty}:∀ {l:List (List Cv)} {e:Nat} {b:Els τ},m.newEls τ e l=some b->b.lv=2\/b.lv=4\/b.lv=5
 | [],e,b,h=>by simp only [Lk.newEls,Option.some.injEq] at h; subst h; simp
 | x::l,e,b,h=>by
  simp only [Lk.newEls] at h
  cases ha:m.absorbs e 0 x with
  | none=>simp [ha] at h
  | some a =>
   cases hr:m.newEls τ (e+1) l with
   | none=>simp [ha,hr] at h
   | some b2 =>
    cases hy:mkEl τ a.cts with
    | none=>simp [ha,hr,hy] at h
    | some y =>
     simp only [ha,hr,hy,Option.some.injEq] at h; subst h
     have:=absorbs_lv ha
     have:=newEls_lv hr
     simp only; omega
theorem newEls_sh {τ:Ty}:∀ {l:List (List Cv)} {e:Nat} {b:Els τ} {r k:Nat},m.newEls τ e l=some b->(r,k)∈b.sh->∃ row,m.r r=some row/\((k=3/\leK 4 row.ow=true)\/(k=4/\row.ow=5))
 | [],e,b,r,k,h,hs=>by simp only [Lk.newEls,Option.some.injEq] at h; subst h; simp at hs
 | x::l,e,b,r,k,h,hs=>by
  simp only [Lk.newEls] at h
  cases ha:m.absorbs e 0 x with
  | none=>simp [ha] at h
  | some a =>
   cases hr:m.newEls τ (e+1) l with
   | none=>simp [ha,hr] at h
   | some b2 =>
    cases hy:mkEl τ a.cts with
    | none=>simp [ha,hr,hy] at h
    | some y =>
     simp only [ha,hr,hy,Option.some.injEq] at h; subst h
     simp only [List.mem_append] at hs
     rcases hs with hs | hs
     ·exact absorbs_sh ha hs
     ·exact newEls_sh hr hs
def liD (m:Lk) (key:Nat) (row:Row) (mv:List (Nat×(Nat×Nat))) (sh:List (Nat×Nat)):Dl:={ Dl.z with kr:=key::keys mv,rs:=gone mv++(m.share sh++[(key,some row)]) }
theorem liD_rs {key:Nat} {row:Row} {mv:List (Nat×(Nat×Nat))} {sh:List (Nat×Nat)} (hap:(key::(keys mv++keys sh)).Nodup) (hp:∀ r k,(r,k)∈sh->∃ row,m.r r=some row) (k:Nat) :
  lkZ (liD m key row mv sh).rs k=if key=k then some (some row) else match lk sh k with
   | some n=>(m.r k).map (fun row=>some { row with ow:=n })
   | none=>if k∈keys mv then some none else none :=
 peD_rs (m:=m) (r:=key) (row':=row) (a:=⟨[],mv,sh,5⟩) hap hp k
theorem li_step (hR:Rel X S.lk γ w) (htop:∀ g,w.heap.size<=g->γ.O g=none) (hm:Le m S.lk) {a:Ro} {row:Row} {v:Value} {cs:List Value} {nb:Option Nat} (hap:a.apart)
  (hsh:∀ r k,(r,k)∈a.sh->∃ row,m.r r=some row/\((k=3/\leK 4 row.ow=true)\/(k=4/\row.ow=5))) (hn:∀ g,some g=nb->w.heap.size<=g/\g<w'.heap.size)
  (hos:w'.os=w.os) (htp:w'.tape=w.tape) (hout:w'.output=w.output) (hsz:w.heap.size<=w'.heap.size) (hb:∀ g,g<w.heap.size->w'.heap[g]? =w.heap[g]?)
  (hrow:RowR X (a.O γ.O nb) w' a.key row v cs) (hon:ownK row.ow=true) (hkey:a.key<100000) :
  let γ':Gh:={ γ with O:=a.O γ.O nb,rv:=updN γ.rv a.key v,cv:=updN γ.cv a.key cs }
  Step X S γ w (liD m a.key row a.mv a.sh) γ' w'/\RelC (S.app (liD m a.key row a.mv a.sh)).lk γ' (.sw a.key) v:=by
 intro γ'
 have hpr:∀ r k,(r,k)∈a.sh->∃ row,m.r r=some row:=fun r k h=>let ⟨row,h1,_⟩:=hsh r k h; ⟨row,h1⟩
 have hchg:Chg a.R γ w γ' w':=a.chg htop hos htp hout hsz hn (fun g hg _=>hb g hg) (fun r hr=>by simp [updN,hr])
 have hms:∀ k,k∈keys a.mv->lk a.sh k=none:=by
  intro k hk
  rw [lk_none]; intro hk'
  have:=hap; simp only [Ro.apart,List.nodup_cons,List.nodup_append] at this
  exact this.2.2.2 k hk k hk' rfl
 have hnew:(S.app (liD m a.key row a.mv a.sh)).lk.r a.key=some row:=by rw [app_r,liD_rs hap hpr]; simp
 have hrk:∀ k rk,hasN k (liD m a.key row a.mv a.sh).kr=false->S.lk.r k=some rk->k≠a.key /\
   ∃ rk',(S.app (liD m a.key row a.mv a.sh)).lk.r k=some rk'/\rk'.τ=rk.τ/\rk'.xs.length=rk.xs.length/\∀ e,rk'.cs e=rk.cs e:=by
  intro k rk hk hrk
  have hk:¬ k∈a.key::keys a.mv:=fun h=>by rw [← hasN_iff] at h; have hk:hasN k (a.key::keys a.mv)=false:=hk; rw [h] at hk; cases hk
  simp only [List.mem_cons,not_or] at hk
  refine ⟨hk.1,?_⟩
  rw [app_r,liD_rs hap hpr,if_neg (Ne.symm hk.1)]
  cases hl:lk a.sh k with
  | none=>simp only [hk.2,if_false]; exact ⟨rk,hrk,rfl,rfl,fun _=>rfl⟩
  | some n =>
   obtain ⟨row2,h2⟩:=hpr k n (lk_mem hl)
   have h3:=hm.r k row2 h2
   rw [hrk] at h3; cases h3
   simp only [h2,Option.map_some]
   exact ⟨_,rfl,rfl,rfl,fun _=>rfl⟩
 refine ⟨rows_step hR rfl hchg ?_ ?_ ?_ (fun k rk h h1=>by
  rw [liD_rs hap hpr] at h
  by_cases hkr:a.key=k
  ·rw [if_pos hkr] at h; cases h; exact absurd h1 (own_ne1 hon)
  ·rw [if_neg hkr] at h
   cases hl:lk a.sh k with
   | none=>rw [hl] at h; simp only at h; split at h<;>cases h
   | some n =>
    rw [hl] at h; simp only at h
    obtain ⟨row2,h2,h3⟩:=hsh k n (lk_mem hl)
    rw [h2] at h; simp only [Option.map_some,Option.some.injEq] at h; subst h
    exfalso; rcases h3 with ⟨h3,_⟩ | ⟨h3,_⟩<;>rw [h3] at h1<;>cases h1) (fun k h1 _=>by simp [γ',updN,show k≠a.key by omega]),⟨row,hnew⟩,by simp [γ',updN]⟩
 ·refine keep_of hR rfl (fun k rk hk hkr=> ?_) (fun k rk rk' hk hkr _ h=> ?_) (fun k hkr _ _=>⟨fun rk rk' hk h=> ?_⟩) (fun k c hk _=>⟨?_,rfl⟩)
  ·obtain ⟨hne,rk',h1,_⟩:=hrk k rk hkr hk
   exact ⟨⟨rk',h1⟩,by simp [γ',updN,hne]⟩
  ·obtain ⟨hne,rk2,h1,h2,h3,_⟩:=hrk k rk hkr hk
   rw [h] at h1; cases h1
   exact ⟨h2,by omega⟩
  ·obtain ⟨hne,rk2,h1,h2,h3,h4⟩:=hrk k rk hkr hk
   rw [h] at h1; cases h1
   intro e c τ ys _ hc
   exact ⟨⟨ys,by rw [h4]; exact hc,Nat.le_refl _⟩,by simp [γ',updN,hne]⟩
  ·rw [app_v]; exact ⟨_,by simp [liD,Dl.z,lkZ,hk]; rfl⟩
 ·intro k rk h
  rw [liD_rs hap hpr] at h
  by_cases hkr:a.key=k
  ·subst hkr
   rw [if_pos rfl] at h; cases h
   simpa [γ',updN] using hrow
  ·rw [if_neg hkr] at h
   cases hl:lk a.sh k with
   | none =>
    rw [hl] at h; simp only at h
    split at h<;>cases h
   | some n =>
    rw [hl] at h; simp only at h
    obtain ⟨row2,h2,h3⟩:=hsh k n (lk_mem hl)
    rw [h2] at h; simp only [Option.map_some,Option.some.injEq] at h; subst h
    have:=a.shared (w:=w) (w':=w') (γ:=γ) hap (nb:=nb) (fun g h=>(hn g h).1) htop (fun g hg _=>hb g hg) (hR.rs k row2 (hm.r k row2 h2)) (lk_mem hl) h3
    simpa [γ',updN,Ne.symm hkr] using this
 ·intro k rk h hk hRk
  rw [liD_rs hap hpr] at h
  by_cases hkr:a.key=k
  ·rw [if_pos hkr] at h; cases h
  ·rw [if_neg hkr] at h
   rcases hRk with h1 | h1 | h1
   ·exact hkr h1.symm
   ·rw [hms k h1] at h; simp [h1] at h
   ·cases hl:lk a.sh k with
    | none=>exact absurd h1 (lk_none.1 hl)
    | some n =>
     obtain ⟨row2,h2⟩:=hpr k n (lk_mem hl)
     rw [hl] at h; simp [h2] at h
theorem parts_ok (hR:Rel X S.lk γ w) {f:Operand->AV} (hf:∀ o,RelA S.lk γ (f o) (ρ o)) {z:Nat}:∀ (parts:List (Nat×Operand)) (n:Nat) (pss:List (List Cv)),partsOf f z n parts=some pss ->
  RelLL S.lk γ pss (parts.map fun p=>(ρ p.2).cells.toList)/\∀ (j:Nat) (p:Nat×Operand),parts[j]? =some p->p.1=n+j/\(ρ p.2).cells.size=z
 | [],n,pss,h=>by simp only [partsOf,Option.some.injEq] at h; subst h; exact ⟨.nil,by simp⟩
 | (i,o)::parts,n,pss,h=>by
  simp only [partsOf] at h
  revert h; split
  ·rename_i cs r hi hc hr
   split
   ·rename_i hz
    intro h; cases h
    obtain ⟨h1,h2⟩:=parts_ok hR hf parts (n+1) r hr
    have hrel:=cells_ok hR (hf o) hc
    have hin:=nat_beq hi
    have hlen:=nat_beq hz
    have hsz:(ρ o).cells.size=z:=by have:=hrel.length; simp at this; omega
    refine ⟨.cons hrel h1,fun j p hj=> ?_⟩
    cases j with
    | zero=>simp at hj; subst hj; exact ⟨by simpa using hin,hsz⟩
    | succ j=>obtain ⟨h3,h4⟩:=h2 j p (by simpa using hj); exact ⟨by omega,h4⟩
   ·intro h; cases h
  ·intro h; cases h
theorem lit_step (hX:CtxOk X) (hR:Rel X S.lk γ w) (htop:∀ g,w.heap.size<=g->γ.O g=none) (hm:Le m S.lk) {t:TypeId} {τ:Ty} (ht:X.elOwn t=some τ) {n key:Nat} {parts:Array (Nat×Operand)} {f:Operand->AV}
  (hf:∀ o,RelA S.lk γ (f o) (ρ o)) (hn:parts.size=n) (hsm:n*sz τ<=2 ^ 24) {pss:List (List Cv)} (hp:partsOf f (sz τ) 0 parts.toList=some pss) {b:Els τ} (hb:m.newEls τ 0 pss=some b)
  (hap:(key::(keys b.mv++keys b.sh)).Nodup) (hok:τ.isByte=true->b.ok=true) (hkey:key<100000) :
  ∃ v w' γ',(Instr.buildSlice t n (parts.map fun (i,x)=>(i,ρ x))).run X.P w= .ok v w'/\Step X S γ w (liD m key ⟨τ,b.ys,b.lv⟩ b.mv b.sh) γ' w' /\
   RelC (S.app (liD m key ⟨τ,b.ys,b.lv⟩ b.mv b.sh)).lk γ' (.sw key) v:=by
 obtain ⟨hu,hlk⟩:=elOwn_inv ht
 obtain ⟨i,z,hi,hz,hs,_,_,_⟩:=own_info hX ht
 obtain ⟨hrel,hpp⟩:=parts_ok hR hf parts.toList 0 pss hp
 let ps:Array (Nat×Value):=parts.map fun (i,x)=>(i,ρ x)
 have hps:ps.toList=parts.toList.map fun p=>(p.1,ρ p.2):=by simp [ps]
 have hrun:=lit_run (w:=w) (P:=X.P) (parts:=ps) hu hi hz hs (sz_pos τ) hsm (by simp [ps,hn]) (fun j p hj=>by
  rw [hps,List.getElem?_map] at hj
  cases hq:parts.toList[j]? with
  | none=>rw [hq] at hj; cases hj
  | some q =>
   rw [hq] at hj; simp only [Option.map_some,Option.some.injEq] at hj; subst hj
   obtain ⟨h1,h2⟩:=hpp j q hq
   exact ⟨by simpa using h1,h2⟩)
 have how:=newEls_lv hb
 have hown:ownK b.lv=true:=by rcases how with h | h | h<;>rw [h]<;>rfl
 let a:Ro:=⟨key,b.lv,false,fun _ _=>true,b.mv,b.sh⟩
 let vss:=parts.toList.map fun p=>(ρ p.2).cells.toList
 have hflat:(ps.toList.flatMap fun p=>p.2.cells.toList)=vss.flatten:=by
  rw [hps]; simp only [List.flatMap,List.map_map]; rfl
 have habs:=a.absO (M:=S.lk) hap how (w:=w) (w':=w.alloc (.cells (ps.toList.flatMap fun p=>p.2.cells.toList).toArray (X.id τ))) (γ:=γ) (nb:=some w.heap.size) (fun g h=>by cases h; exact Nat.le_refl _) htop
  (xs:=pss.flatten) (fun g o hg _=>by rw [heap_alloc_old w _ g (lt_of_some hg)]; exact hg)
 obtain ⟨e1,e2,e3,e4⟩:=newEls_ok hm hR (key:=key) how pss vss 0 b hrel hb (Nat.le_refl _) hok habs
 have hpl:pss.length=n:=by rw [← e3]; simp [vss,hn]
 have hvl:vss.flatten.length=n*sz τ:=by
  have:∀ (l:List (List Value)),(∀ (j:Nat) (vs:List Value),l[j]? =some vs->vs.length=sz τ)->l.flatten.length=l.length*sz τ:=by
   intro l
   induction l with
   | nil=>simp
   | cons x l ih =>
    intro h
    have h0:=h 0 x rfl
    have:=ih (fun j vs hj=>h (j+1) vs (by simpa using hj))
    simp only [List.flatten_cons,List.length_append,List.length_cons,Nat.add_mul,this,h0]; omega
  rw [this vss e2]; simp [vss,hn]
 refine ⟨_,_,_,hrun,li_step (a:=a) (row:=⟨τ,b.ys,b.lv⟩) (v:= .slice (some ⟨w.heap.size,0,none⟩) n n) (cs:=vss.flatten) (nb:=some w.heap.size) hR htop hm hap (fun r k h=>newEls_sh hb h)
  (fun g h=>by cases h; exact ⟨Nat.le_refl _,by simp⟩) rfl rfl rfl (by simp) (fun g hg=>heap_alloc_old w _ g hg) ?_ hown hkey⟩
 refine ⟨?_,fun e c ct he hct=> ?_⟩
 ·have:topC key b.lv= .own (.r key):=by simp [topC,hown]
  show Sl X _ _ (topC key b.lv) τ _ b.ys.length _
  rw [this,e1,hpl]
  refine ⟨⟨hvl,.inr ⟨w.heap.size,n,_,rfl,Nat.zero_le _,heap_alloc_new w _,Nat.le_refl _,?_,by rw [hflat]; simp [hvl],?_⟩⟩,fun g hg=> ?_⟩
  ·have:=sz_pos τ
   have h1:n*1<=n*sz τ:=Nat.mul_le_mul_left _ this
   simp only [maxLen]; omega
  ·rw [hflat,List.toList_toArray,← hvl,List.take_length]
  ·have:w.heap.size=g:=by simpa [Value.ownBlock] using hg
   simp [Ro.O,this,a]
 ·have he':e<pss.length:=by rw [← e1]; exact he
  obtain ⟨u,hu',hcell⟩:=e4 e c ct he' hct
  exact ⟨u,hu',by simpa using hcell⟩
theorem append_run {P:Program} {t ty e:TypeId} {i:TypeInfo} {z:Value} {size bytes:Nat} (ht:P.underlying t=some (.slice e)) (hi:P.info? e=some i) (hz:i.zero=some z)
  (hsize:i.size=size) (hby:i.bytes=bytes) (hzs:z.cells.size=size) (hsz:0<size) {v:Value} {n:Nat} {xs:List Value} (hown:w.ownsRow 0 e size v n xs)
  {a:Addr} {k c:Nat} {news:List Value} (hl:news.length=k*size) (hnews:∀ j u,news[j]? =some u->w.cell? (a.add j)=some u) (h1:∀ u∈news,u.oneCell'=true)
  (h63:n+k<=maxLen) (hbytes:(n+k)*bytes<=140737488355328) :
  ∃ v' w',(Builtin.append_ #[t,t] ty #[v,.slice (some a) k c]).run P w= .ok v' w'/\w'.ownsRow 0 e size v' (n+k) (xs++news)/\w.grownBy w' v.ownBlock /\
   ∀ g,v'.ownBlock=some g->v.ownBlock=some g\/w.heap.size<=g:=by
 obtain ⟨v',w',hr,ho,hg,_⟩:=run_append_own (P:=P) w 0 t ty e i z size bytes ht hi hz hsize hby hzs hsz v n xs hown a k c news hl hnews h1 h63 hbytes (Nat.zero_le _)
 refine ⟨v',w',hr,ho,hg,fun g hgv=> ?_⟩
 rcases hown.2 with ⟨rfl,rfl⟩ | ⟨g1,cap,cur,rfl,_,hg1,hnc,hcm,hcs,htk⟩
 ·obtain ⟨v2,w2,hr2,ho2,_,_⟩:=run_append_own (P:=P) w w.heap.size t ty e i z size bytes ht hi hz hsize hby hzs hsz _ 0 xs ⟨hown.1,.inl ⟨rfl,rfl⟩⟩ a k c news hl hnews h1 h63 hbytes (Nat.le_refl _)
  rw [hr] at hr2; cases hr2
  exact .inr (ho2.lt g hgv).1
 ·by_cases hroom:n+k<=cap
  ·left
   have hfit:n*i.size+news.length<=cur.size:=by rw [hsize,hl,hcs,← Nat.add_mul]; exact Nat.mul_le_mul_right _ hroom
   have hr2:=run_append_room (P:=P) w t ty e i ht hi g1 n cap cur hg1 a k c news (by rw [hsize]; exact hl) hnews h1 hroom hfit
   rw [hr] at hr2; cases hr2
   exact hgv
  ·right
   have hr2:=run_append_grow (P:=P) w t ty e i z ht hi hz ⟨g1,0,none⟩ n cap xs (by rw [hsize]; exact hown.1) (hown.cells (g:=g1) rfl) a k c news (by rw [hsize]; exact hl) hnews (by omega) (by simp only [maxLen] at h63; omega)
    (growslice_fits (by omega) (by rw [hby]; exact hbytes))
   rw [hr] at hr2; cases hr2
   have:w.heap.size=g:=by simpa [Value.ownBlock] using hgv
   omega
structure Ao where
 key:Nat
 ow':Nat
 off:Nat
 gv:Option Nat
 sh:Option Nat
def Ao.f (a:Ao):Ow->Option Ow
 | .r k=>if some k=a.gv then none else if k=a.key then none else some (.r k)
 | .n k e c=>if some k=a.gv then some (dn a.ow' a.key (a.off+e) c) else if some k=a.sh then some .fz else if k=a.key then some (dn a.ow' a.key e c) else some (.n k e c)
 | o=>some o
def Ao.R (a:Ao) (r:Nat):Prop:=r=a.key\/some r=a.gv\/some r=a.sh
def Ao.O (a:Ao) (O:OM) (nb:Option Nat):OM:=fun g=>if some g=nb then some (.r a.key) else (O g).bind a.f
theorem Ao.f_out (a:Ao) {o:Ow} (h:∀ r,a.R r->o≠ .r r/\∀ e c,o≠ .n r e c):a.f o=some o:=by
 cases o with
 | r k =>
  have hk:¬ a.R k:=fun hr=>(h k hr).1 rfl
  simp only [Ao.R,not_or] at hk
  simp only [Ao.f,if_neg hk.2.1,if_neg hk.1]
 | n k e c =>
  have hk:¬ a.R k:=fun hr=>(h k hr).2 e c rfl
  simp only [Ao.R,not_or] at hk
  simp only [Ao.f,if_neg hk.2.1,if_neg hk.2.2,if_neg hk.1]
 | _=>rfl
def apD (key:Nat) (row':Row) (g:List Nat) (sy:List (Nat×Option Row)):Dl:={ Dl.z with kr:=key::g,rs:=sy++[(key,some row')] }
theorem apD_rs {key:Nat} {row':Row} {g:List Nat} {sy:List (Nat×Option Row)} (k:Nat):lkZ (apD key row' g sy).rs k=if key=k then some (some row') else lkZ sy k:=by
 show lkZ (sy++[(key,some row')]) k=_
 rw [lkZ_append,lkZ_one]; by_cases h:key=k<;>simp [h]
theorem ap_gen (hR:Rel X S.lk γ w) (htop:∀ g,w.heap.size<=g->γ.O g=none) {a:Ao} {row':Row} {v v':Value} {cs':List Value} {nb:Option Nat} {g:List Nat} {sy:List (Nat×Option Row)}
  (hg:∀ k,k∈g↔some k=a.gv) (hsy:∀ k,lkZ sy k=if some k=a.gv then some none else if some k=a.sh then (S.lk.r k).map (fun row=>some { row with ow:=4 }) else none)
  (hgk:a.gv≠some a.key) (hsk:a.sh≠some a.key) (hgs:∀ k,some k=a.gv->some k≠a.sh) (hshr:∀ k,some k=a.sh->∃ row,S.lk.r k=some row/\row.ow=5)
  (hgr:w.grownBy w' v.ownBlock) (hvb:∀ g,v.ownBlock=some g->γ.O g=some (.r a.key)) (hn:∀ g,some g=nb->g<w'.heap.size/\(γ.O g=some (.r a.key)\/w.heap.size<=g))
  (hrow:RowR X (a.O γ.O nb) w' a.key row' v' cs') (hon:ownK row'.ow=true) (hkey:¬ (200000<=a.key/\a.key<300000)) :
  let γ':Gh:={ γ with O:=a.O γ.O nb,rv:=updN γ.rv a.key v',cv:=updN γ.cv a.key cs' }
  Step X S γ w (apD a.key row' g sy) γ' w'/\RelC (S.app (apD a.key row' g sy)).lk γ' (.sw a.key) v':=by
 intro γ'
 have hO:∀ g o,γ.O g=some o->(∀ k,o≠ .r k\/k≠a.key)->a.O γ.O nb g=a.f o:=by
  intro g o ho hk
  have hgn:¬ some g=nb:=fun h=>by
   rcases (hn g h).2 with h1 | h1
   ·rw [ho] at h1; cases h1; rcases hk a.key with h | h<;>exact absurd rfl h
   ·have:=htop g h1; rw [this] at ho; cases ho
  simp only [Ao.O,if_neg hgn,ho]; rfl
 have hheap:∀ g,g<w.heap.size->γ.O g≠some (.r a.key)->w'.heap[g]? =w.heap[g]? :=fun g hg ho=>hgr.block g hg (fun e=>ho (hvb g e.symm))
 have hchg:Chg a.R γ w γ' w':=by
  refine ⟨hgr.os,hgr.tape,hgr.output,hgr.size,fun g hg hk=>⟨hheap g hg (hk a.key (.inl rfl)).1,?_⟩,fun g hg=> ?_,rfl,fun r hr=> ?_⟩
  ·show a.O γ.O nb g=γ.O g
   cases ho:γ.O g with
   | none =>
    have hgn:¬ some g=nb:=fun h=>by
     rcases (hn g h).2 with h1 | h1
     ·rw [ho] at h1; cases h1
     ·omega
    simp only [Ao.O,if_neg hgn,ho]; rfl
   | some o =>
    rw [ho] at hk
    rw [hO g o ho (fun k=>by
     by_cases hkk:k=a.key
     ·left; rintro rfl; exact (hk a.key (.inl rfl)).1 (by rw [hkk])
     ·exact .inr hkk)]
    exact a.f_out fun r hr=>⟨fun e=>(hk r hr).1 (congrArg some e),fun e c e'=>(hk r hr).2 e c (congrArg some e')⟩
  ·show a.O γ.O nb g=none
   have hgn:¬ some g=nb:=fun h=>by have:=(hn g h).1; omega
   simp only [Ao.O,if_neg hgn,htop g (Nat.le_trans hgr.size hg)]; rfl
  ·have:r≠a.key:=fun e=>hr (.inl e)
   simp [γ',updN,this]
 have hnew:(S.app (apD a.key row' g sy)).lk.r a.key=some row':=by rw [app_r,apD_rs]; simp
 have hrk:∀ k rk,hasN k (apD a.key row' g sy).kr=false->S.lk.r k=some rk->k≠a.key /\
   ∃ rk',(S.app (apD a.key row' g sy)).lk.r k=some rk'/\rk'.τ=rk.τ/\rk'.xs.length=rk.xs.length/\∀ e,rk'.cs e=rk.cs e:=by
  intro k rk hk hrk
  have hk:¬ k∈a.key::g:=fun h=>by rw [← hasN_iff] at h; have hk:hasN k (a.key::g)=false:=hk; rw [h] at hk; cases hk
  simp only [List.mem_cons,not_or] at hk
  refine ⟨hk.1,?_⟩
  rw [app_r,apD_rs,if_neg (Ne.symm hk.1),hsy,if_neg (fun e=>hk.2 ((hg k).2 e))]
  by_cases hs:some k=a.sh
  ·rw [if_pos hs,hrk]; exact ⟨_,rfl,rfl,rfl,fun _=>rfl⟩
  ·rw [if_neg hs]; exact ⟨rk,hrk,rfl,rfl,fun _=>rfl⟩
 refine ⟨rows_step hR rfl hchg ?_ ?_ ?_ (fun k rk h h1=>by
  rw [apD_rs] at h
  by_cases hkr:a.key=k
  ·rw [if_pos hkr] at h; cases h; exact absurd h1 (own_ne1 hon)
  ·rw [if_neg hkr,hsy] at h
   by_cases hgv:some k=a.gv
   ·rw [if_pos hgv] at h; cases h
   ·rw [if_neg hgv] at h
    by_cases hs:some k=a.sh
    ·rw [if_pos hs] at h
     obtain ⟨row2,h2,h5⟩:=hshr k hs
     rw [h2] at h; simp only [Option.map_some,Option.some.injEq] at h; subst h
     cases h1
    ·rw [if_neg hs] at h; cases h) (fun k h1 h2=>by simp [γ',updN,show k≠a.key by omega]),⟨row',hnew⟩,by simp [γ',updN]⟩
 ·refine keep_of hR rfl (fun k rk hk hkr=> ?_) (fun k rk rk' hk hkr _ h=> ?_) (fun k hkr _ _=>⟨fun rk rk' hk h=> ?_⟩) (fun k c hk _=>⟨?_,rfl⟩)
  ·obtain ⟨hne,rk',h1,_⟩:=hrk k rk hkr hk
   exact ⟨⟨rk',h1⟩,by simp [γ',updN,hne]⟩
  ·obtain ⟨hne,rk2,h1,h2,h3,_⟩:=hrk k rk hkr hk
   rw [h] at h1; cases h1
   exact ⟨h2,by omega⟩
  ·obtain ⟨hne,rk2,h1,h2,h3,h4⟩:=hrk k rk hkr hk
   rw [h] at h1; cases h1
   intro e c τ ys _ hc
   exact ⟨⟨ys,by rw [h4]; exact hc,Nat.le_refl _⟩,by simp [γ',updN,hne]⟩
  ·rw [app_v]; exact ⟨_,by simp [apD,Dl.z,lkZ,hk]; rfl⟩
 ·intro k rk h
  rw [apD_rs] at h
  by_cases hkr:a.key=k
  ·subst hkr
   rw [if_pos rfl] at h; cases h
   simpa [γ',updN] using hrow
  ·rw [if_neg hkr,hsy] at h
   by_cases hgv:some k=a.gv
   ·rw [if_pos hgv] at h; cases h
   ·rw [if_neg hgv] at h
    by_cases hs:some k=a.sh
    ·rw [if_pos hs] at h
     obtain ⟨row2,h2,h5⟩:=hshr k hs
     rw [h2] at h; simp only [Option.map_some,Option.some.injEq] at h; subst h
     have hr2:=hR.rs k row2 h2
     have:=hr2.re (O':=a.O γ.O nb) (w':=w') (k':=k) (ow':=4) (by rw [h5]; rfl) (fun g o hg' hi=>by
       rw [h5] at hi
       have hi:γ.O g=some (.r k):=hi
       refine ⟨(hheap g (lt_of_some hg') (by rw [hi]; simp; exact Ne.symm hkr)).trans hg',?_⟩
       rw [hO g _ hi (fun j=>by
        by_cases hj:j=a.key
        ·left; rw [hj]; simp; exact Ne.symm hkr
        ·exact .inr hj)]
       simp only [Ao.f,if_neg hgv,if_neg (Ne.symm hkr)]; rfl)
      (fun e c g o hg' hi=>by
       rw [h5] at hi
       have hi:γ.O g=some (.n k e c):=hi
       refine ⟨(hheap g (lt_of_some hg') (by rw [hi]; simp)).trans hg',?_⟩
       rw [hO g _ hi (fun j=> .inl (by simp))]
       simp only [Ao.f,if_neg hgv,if_pos hs]; rfl)
     simpa [γ',updN,Ne.symm hkr] using this
    ·rw [if_neg hs] at h; cases h
 ·intro k rk h hk hRk
  rw [apD_rs] at h
  by_cases hkr:a.key=k
  ·rw [if_pos hkr] at h; cases h
  ·rw [if_neg hkr,hsy] at h
   rcases hRk with h1 | h1 | h1
   ·exact hkr h1.symm
   ·rw [if_pos h1] at h; cases h
   ·rw [if_neg (fun e=>hgs k e h1),if_pos h1] at h
    obtain ⟨row2,h2,_⟩:=hshr k h1
    rw [h2] at h; simp at h
theorem cellV_one {A:Nat->Prop} {ct:Ct} {v:Value} (h:CellV A w ct v):v.oneCell'=true:=by
 cases ct with
 | u=>exact h.elim
 | l τ ys=>exact h.2.slcV.one
 | _=>have h:v=_:=h; subst h; rfl
theorem vis_one {A:Nat->Prop} {τ:Ty} {xs:List (El τ)} {v:Value} {cs:List Value} (h:Vis A w τ xs v cs):∀ u∈cs,u.oneCell'=true:=by
 intro u hu
 obtain ⟨i,hi,rfl⟩:=List.getElem_of_mem hu
 have hz:=sz_pos τ
 have hi':i<xs.length*sz τ:=by rw [← h.top.1]; exact hi
 have he:i/sz τ<xs.length:=Nat.div_lt_of_lt_mul (by rwa [Nat.mul_comm])
 have hc:i % sz τ<sz τ:=Nat.mod_lt _ hz
 have hie:i/sz τ*sz τ+i % sz τ=i:=by rw [Nat.mul_comm]; exact Nat.div_add_mod i (sz τ)
 have hcc:(cells τ (xs.getD (i/sz τ) (dflt τ)))[i % sz τ]? =some ((cells τ (xs.getD (i/sz τ) (dflt τ)))[i % sz τ]'(by rw [cells_length]; exact hc)):=List.getElem?_eq_getElem _
 obtain ⟨u,hu',hr⟩:=h.cel _ _ _ he hcc
 rw [hie,List.getElem?_eq_getElem hi] at hu'
 cases hu'
 exact cellV_one hr
theorem slF_uniq {A B:Nat->Prop} {z:Nat} {v:Value} {n:Nat} {cs cs':List Value} (h:SlF A w z v n cs) (h':SlF B w z v n cs'):cs=cs':=by
 have l1:=h.1
 have l2:=h'.1
 rcases h.2 with ⟨_,h0⟩ | ⟨g,o,cap,cur,e,fz,hv,hg,_,_,_,ht⟩
 ·subst h0
  rw [Nat.zero_mul] at l1 l2
  rw [List.length_eq_zero_iff.1 l1,List.length_eq_zero_iff.1 l2]
 ·rcases h'.2 with ⟨_,h0⟩ | ⟨g',o',cap',cur',e',fz',hv',hg',_,_,_,ht'⟩
  ·subst h0
   rw [Nat.zero_mul] at l1 l2
   rw [List.length_eq_zero_iff.1 l1,List.length_eq_zero_iff.1 l2]
  ·rw [hv] at hv'
   obtain ⟨rfl,rfl⟩:g=g'/\o=o':=by
    injection hv' with h1 _ _; injection h1 with h1; injection h1 with h1 h2 _; exact ⟨h1,h2⟩
   rw [hg] at hg'; cases hg'
   rw [← ht,← ht']
theorem deep_cells (hm:Le m M) (hR:Rel X M γ w) {y:Cv} {v:Value} (hy:RelC M γ y v) {τ:Ty} {ys:List (El τ)} (hd:τ.deep=true) (h:(m.vw y).ct=some (.l τ ys)) {cs:List Value} {A:Nat->Prop}
  (hv:Vis A w τ ys v cs):ys=[]\/∃ r row off,y.row=some r/\m.r r=some row/\row.τ=τ/\((y= .sw r/\off=0)\/∃ n,y= .sl r off n) /\
   ∀ e c ct,e<ys.length->(cells τ (ys.getD e (dflt τ)))[c]? =some ct->∃ u,cs[e*sz τ+c]? =some u/\CellR X γ.O w (nesC r (off+e) c row.ow) ct u:=by
 cases y with
 | nl σ =>
  simp only [Lk.vw,Vw.ct,Option.some.injEq,Ct.l.injEq] at h
  obtain ⟨rfl,h⟩:=h; cases h; exact .inl rfl
 | sw r =>
  simp only [Lk.vw] at h
  cases hr:m.r r with
  | none=>simp [hr,Vw.ct] at h
  | some row =>
   simp only [hr,Vw.ct,Option.some.injEq,Ct.l.injEq] at h
   obtain ⟨rfl,h⟩:=h; cases h
   obtain ⟨_,rfl⟩:=hy
   have hrow:=hR.rs r row (hm.r r row hr)
   have hcs:=slF_uniq hv.top hrow.top.slF
   subst hcs
   refine .inr ⟨r,row,0,rfl,hr,rfl,.inl ⟨rfl,rfl⟩,fun e c ct he hc=> ?_⟩
   rw [Nat.zero_add]; exact hrow.cel e c ct he hc
 | sl r off len =>
  simp only [Lk.vw] at h
  cases hr:m.r r with
  | none=>simp [hr,Vw.ct] at h
  | some row =>
   simp only [hr,Vw.ct,Option.some.injEq,Ct.l.injEq] at h
   obtain ⟨rfl,h⟩:=h; cases h
   obtain ⟨row',hr',hle,hs⟩:=hy
   rw [hm.r r row hr] at hr'; cases hr'
   have hrow:=hR.rs r row (hm.r r row hr)
   have hl:=sub_length row.xs hle
   have hsub:=hrow.top.slF.sub hle hs
   have ht:=hv.top
   rw [hl] at ht
   have hcs:=slF_uniq ht hsub
   subst hcs
   refine .inr ⟨r,row,off,rfl,hr,rfl,.inr ⟨len,rfl⟩,fun e c ct he hc=> ?_⟩
   rw [hl] at he
   rw [sub_getD row.xs _ he] at hc
   obtain ⟨u,hu,hcr⟩:=hrow.cel (off+e) c ct (by omega) hc
   refine ⟨u,?_,hcr⟩
   have hc':c<sz row.τ:=by
    have:=(List.getElem?_eq_some_iff.1 hc).1
    rwa [cells_length] at this
   have:e*sz row.τ+c<len*sz row.τ:=by
    have:=Nat.mul_le_mul_right (sz row.τ) (show e+1<=len from he)
    rw [Nat.add_mul] at this; omega
   rw [List.getElem?_take,if_pos this,List.getElem?_drop,← hu]
   congr 1; rw [Nat.add_mul]; omega
 | nw r e c =>
  simp only [Lk.vw,nth_eq] at h
  cases hr:m.r r with
  | none=>simp [hr,Vw.ct] at h
  | some row =>
   cases hc:(row.cs e)[c]? with
   | none=>simp [hr,hc,Vw.ct] at h
   | some ct =>
    cases ct with
    | l σ zs =>
     simp only [hr,hc,Vw.ct,Option.some.injEq,Ct.l.injEq] at h
     obtain ⟨rfl,h⟩:=h
     have:=cells_deep _ σ zs (List.mem_of_getElem? hc)
     rw [hd] at this; cases this
    | _=>simp [hr,hc,Vw.ct] at h
 | ns r e c off len =>
  simp only [Lk.vw,nth_eq] at h
  cases hr:m.r r with
  | none=>simp [hr,Vw.ct] at h
  | some row =>
   cases hc:(row.cs e)[c]? with
   | none=>simp [hr,hc,Vw.ct] at h
   | some ct =>
    cases ct with
    | l σ zs =>
     simp only [hr,hc,Vw.ct,Option.some.injEq,Ct.l.injEq] at h
     obtain ⟨rfl,h⟩:=h
     have:=cells_deep _ σ zs (List.mem_of_getElem? hc)
     rw [hd] at this; cases this
    | _=>simp [hr,hc,Vw.ct] at h
 | _=>simp [Lk.vw,Vw.ct] at h
theorem ap_row {a:Ao} {nb:Option Nat} {τ:Ty} {xs ys:List (El τ)} {ow:Nat} {v v':Value} {cs news:List Value} (hrow:RowR X γ.O w a.key ⟨τ,xs,ow⟩ v cs) (hoff:a.off=xs.length)
  (hown:w'.ownsRow 0 (X.id τ) (sz τ) v' (xs.length+ys.length) (cs++news)) (how:a.ow'=2\/a.ow'=4\/a.ow'=5) (hle:leK a.ow' ow=true) (hon:ownK ow=true) (hgk:a.gv≠some a.key) (hsk:a.sh≠some a.key)
  (hnb:∀ g,v'.ownBlock=some g->some g=nb) (hheap:∀ g o,w.heap[g]? =some o->γ.O g≠some (.r a.key)->w'.heap[g]? =some o)
  (hnew:∀ e c ct,e<ys.length->(cells τ (ys.getD e (dflt τ)))[c]? =some ct->∃ u,news[e*sz τ+c]? =some u/\CellR X (a.O γ.O nb) w' (nesC a.key (xs.length+e) c a.ow') ct u)
  (hnb0:∀ g o,w.heap[g]? =some o->some g=nb->γ.O g=some (.r a.key)) :
  RowR X (a.O γ.O nb) w' a.key ⟨τ,xs++ys,a.ow'⟩ v' (cs++news):=by
 have hown':topC a.key a.ow'= .own (.r a.key):=by
  have:ownK a.ow'=true:=by rcases how with h | h | h<;>rw [h]<;>rfl
  simp [topC,this]
 refine ⟨?_,fun e c ct he hc=> ?_⟩
 ·show Sl X _ _ (topC a.key a.ow') τ v' (xs++ys).length _
  rw [hown',List.length_append]
  exact ⟨hown,fun g hg=>by simp only [Ao.O,if_pos (hnb g hg)]⟩
 ·have hc':c<sz τ:=by
   have:=(List.getElem?_eq_some_iff.1 hc).1
   rwa [row_cs,cells_length] at this
  have hl:cs.length=xs.length*sz τ:=hrow.top.slF.1
  by_cases hex:e<xs.length
  ·have hc2:(cells τ (xs.getD e (dflt τ)))[c]? =some ct:=by
    rw [row_cs] at hc
    have:(xs++ys).getD e (dflt τ)=xs.getD e (dflt τ):=by simp [List.getD,List.getElem?_append_left hex]
    rwa [this] at hc
   obtain ⟨u,hu,hr⟩:=hrow.cel e c ct hex hc2
   have h1:e*sz τ+c<cs.length:=by
    have:=Nat.mul_le_mul_right (sz τ) (show e+1<=xs.length from hex)
    rw [Nat.add_mul] at this; omega
   refine ⟨u,by rw [List.getElem?_append_left h1]; exact hu,hr.re (fun g o hg hi=> ?_) (leK_nes hle _ _ _ _)⟩
   have hne:=nes_ne (k:=a.key) hi
   refine ⟨hheap g o hg hne,?_⟩
   have hgn:¬ some g=nb:=fun h=>hne (hnb0 g o hg h)
   have hO:(a.O γ.O nb) g=(γ.O g).bind a.f:=by simp only [Ao.O,if_neg hgn]
   rw [hO]
   have hgk':¬ some a.key=a.gv:=fun h=>hgk h.symm
   have hsk':¬ some a.key=a.sh:=fun h=>hsk h.symm
   have fz:γ.O g=some .fz->(γ.O g).bind a.f=some .fz:=fun h=>by rw [h]; rfl
   have no:γ.O g=none->(γ.O g).bind a.f=none:=fun h=>by rw [h]; rfl
   have nn:γ.O g=some (.n a.key e c)->(γ.O g).bind a.f=some (dn a.ow' a.key e c):=fun h=>by
    rw [h]; show a.f (.n a.key e c)=_; simp only [Ao.f,if_neg hgk',if_neg hsk',if_true]
   rcases ownK_cases hon with rfl | rfl | rfl
   ·have h2:a.ow'=2:=by rcases how with h | h | h<;>rw [h] at hle ⊢<;>first | rfl | (simp [leK] at hle)
    rw [h2]
    have hi:γ.O g=none\/γ.O g=some .fz:=hi
    show (γ.O g).bind a.f=none\/(γ.O g).bind a.f=some Ow.fz
    rcases hi with hi | hi
    ·rw [no hi]; exact .inl rfl
    ·rw [fz hi]; exact .inr rfl
   ·have hi:γ.O g=some .fz:=hi
    rw [fz hi]
    rcases how with h | h | h<;>rw [h] at hle ⊢
    ·exact .inr rfl
    ·exact rfl
    ·simp [leK] at hle
   ·have hi:γ.O g=some (.n a.key e c):=hi
    rw [nn hi]
    exact dn_in how
  ·obtain ⟨d,rfl⟩:∃ d,e=xs.length+d:=⟨e-xs.length,by omega⟩
   have hd:d<ys.length:=by simp at he; omega
   have hc2:(cells τ (ys.getD d (dflt τ)))[c]? =some ct:=by
    rw [row_cs] at hc
    have:(xs++ys).getD (xs.length+d) (dflt τ)=ys.getD d (dflt τ):=by simp [List.getD,List.getElem?_append_right]
    rwa [this] at hc
   obtain ⟨u,hu,hr⟩:=hnew d c ct hd hc2
   refine ⟨u,?_,hr⟩
   show (cs++news)[(xs.length+d)*sz τ+c]? =some u
   rw [List.getElem?_append_right (by rw [hl,Nat.add_mul]; omega),hl,← hu]
   congr 1; rw [Nat.add_mul]; omega
def ApOk (X:Ctx) (S:St) (γ:Gh) (w:World) (y:Cv) (τ:Ty) (ys:List (El τ)) (cs:List Value) (p:Ap):Prop :=
  ∃ gv sh:Option Nat,(∀ k,k∈p.gone↔some k=gv) /\
   (∀ k,lkZ p.rs k=if some k=gv then some none else if some k=sh then (S.lk.r k).map (fun row=>some { row with ow:=4 }) else none) /\
   (∀ k,some k=gv->y.row=some k)/\(∀ k,some k=sh->y.row=some k/\∃ row,S.lk.r k=some row/\row.ow=5)/\(∀ k,some k=gv->some k≠sh) /\
   (p.lv=2\/p.lv=4\/p.lv=5) /\
   ∀ (key off ow':Nat) (nb:Option Nat) (w':World),(ow'=2\/ow'=4\/ow'=5)->ow'<=p.lv->y.row≠some key ->
    (∀ g o,w.heap[g]? =some o->γ.O g≠some (.r key)->w'.heap[g]? =some o)->(∀ g o,w.heap[g]? =some o->some g=nb->γ.O g=some (.r key)) ->
    ∀ e c ct,e<ys.length->(cells τ (ys.getD e (dflt τ)))[c]? =some ct->∃ u,cs[e*sz τ+c]? =some u/\CellR X ((⟨key,ow',off,gv,sh⟩:Ao).O γ.O nb) w' (nesC key (off+e) c ow') ct u
theorem apOf_ok (hm:Le m S.lk) (hR:Rel X S.lk γ w) {y:Cv} {v:Value} (hy:RelC S.lk γ y v) {τ:Ty} {ys:List (El τ)} (h:(m.vw y).ct=some (.l τ ys)) {cs:List Value} {A:Nat->Prop} (hv:Vis A w τ ys v cs) :
  ApOk X S γ w y τ ys cs (m.apOf τ y):=by
 have plain:∀ lv,m.apOf τ y=⟨[],[],lv⟩->(lv=2\/lv=4\/lv=5) ->
   (∀ (key off ow':Nat) (nb:Option Nat) (w':World),(ow'=2\/ow'=4\/ow'=5)->ow'<=lv->y.row≠some key ->
    (∀ g o,w.heap[g]? =some o->γ.O g≠some (.r key)->w'.heap[g]? =some o)->(∀ g o,w.heap[g]? =some o->some g=nb->γ.O g=some (.r key)) ->
    ∀ e c ct,e<ys.length->(cells τ (ys.getD e (dflt τ)))[c]? =some ct->∃ u,cs[e*sz τ+c]? =some u/\CellR X ((⟨key,ow',off,none,none⟩:Ao).O γ.O nb) w' (nesC key (off+e) c ow') ct u)->ApOk X S γ w y τ ys cs (m.apOf τ y):=by
  intro lv hap hlv hc
  rw [hap]
  exact ⟨none,none,fun k=>(by simp),fun k=>(by simp [lkZ]),fun k hk=>(by cases hk),fun k hk=>(by cases hk),fun k hk=>(by cases hk),hlv,hc⟩
 have cell:∀ {key off ow':Nat} {gv sh nb:Option Nat} {w':World} {r e1 e c:Nat} {row:Row} {ct:Ct} {u:Value},(∀ g o,w.heap[g]? =some o->γ.O g≠some (.r key)->w'.heap[g]? =some o) ->
   (∀ g o,w.heap[g]? =some o->some g=nb->γ.O g=some (.r key))->(ow'=5->row.ow=5) ->
   (∀ g,In (nesC r e1 c row.ow) (γ.O g)->In (nesC key (off+e) c ow') ((γ.O g).bind (⟨key,ow',off,gv,sh⟩:Ao).f)) ->
   CellR X γ.O w (nesC r e1 c row.ow) ct u->CellR X ((⟨key,ow',off,gv,sh⟩:Ao).O γ.O nb) w' (nesC key (off+e) c ow') ct u:=by
  intro key off ow' gv sh nb w' r e1 e c row ct u hh hn h5 hi hc
  refine hc.re (fun g o hg hin=> ?_) (fun hown=> ?_)
  ·have hne:=nes_ne (k:=key) hin
   refine ⟨hh g o hg hne,?_⟩
   have hgn:¬ some g=nb:=fun h=>hne (hn g o hg h)
   show In _ ((⟨key,ow',off,gv,sh⟩:Ao).O γ.O nb g)
   simp only [Ao.O,if_neg hgn]
   exact hi g hin
  ·have h6:ow'=5:=by revert hown; simp only [nesC]; split<;>simp [Cls.isOwn]
   rw [h5 h6]; rfl
 cases hd:τ.deep with
 | false =>
  refine plain 5 ?_ (by simp) ?_
  ·simp only [Lk.apOf,hd]
  ·intro key off ow' nb w' _ _ _ _ _ e c ct he hc
   obtain ⟨u,hu,hcv⟩:=hv.cel e c ct he hc
   refine ⟨u,hu,?_⟩
   have hmem:=List.mem_of_getElem? hc
   cases ct with
   | u=>exact hcv
   | l σ zs=>exact absurd rfl (cells_flat hd _ _ hmem σ zs)
   | _=>exact hcv
 | true =>
  rcases deep_cells hm hR hy hd h hv with h0 | ⟨r,row,offy,hyr,hr,hτ,hform,hcel⟩
  ·subst h0
   cases hyr:y.row with
   | none =>
    refine plain 5 ?_ (by simp) (fun key off ow' nb w' _ _ _ _ _ e c ct he=>by simp at he)
    simp only [Lk.apOf,hd,hyr]
   | some r =>
    cases hr:m.r r with
    | none =>
     refine plain 2 ?_ (by simp) (fun key off ow' nb w' _ _ _ _ _ e c ct he=>by simp at he)
     simp only [Lk.apOf,hd,hyr,hr]
    | some row =>
     have hr2:=hm.r r row hr
     by_cases h5:row.ow=5
     ·by_cases hsw:∃ s,y= .sw s
      ·obtain ⟨s,rfl⟩:=hsw
       have hsr:s=r:=by simpa [Cv.row] using hyr
       subst hsr
       have hap:m.apOf τ (.sw s)=⟨[s],[(s,none)],5⟩:=by simp only [Lk.apOf,hd,Cv.row,hr,h5]
       rw [hap]
       refine ⟨some s,none,fun k=>(by simp),fun k=> ?_,fun k hk=>(by rw [hk]; rfl),fun k hk=>(by cases hk),fun k _=>(by simp),by simp,fun key off ow' nb w' _ _ _ _ _ e c ct he=>by simp at he⟩
       simp only [lkZ]; by_cases hk:s=k
       ·subst hk; simp
       ·simp [hk,Ne.symm hk]
      ·have hap:m.apOf τ y=⟨[],[(r,some { row with ow:=4 })],4⟩:=by
        simp only [Lk.apOf,hd,hyr,hr,h5]
        cases y<;>first | rfl | exact absurd ⟨_,rfl⟩ hsw
       rw [hap]
       refine ⟨none,some r,fun k=>(by simp),fun k=> ?_,fun k hk=>(by cases hk),fun k hk=> ?_,fun k hk=>(by cases hk),by simp,fun key off ow' nb w' _ _ _ _ _ e c ct he=>by simp at he⟩
       ·simp only [lkZ]; by_cases hk:r=k
        ·subst hk; simp [hr2]
        ·simp [hk,Ne.symm hk]
       ·cases hk; exact ⟨hyr,row,hr2,h5⟩
     ·have hap:m.apOf τ y=⟨[],[],(m.apOf τ y).lv⟩/\((m.apOf τ y).lv=2\/(m.apOf τ y).lv=4\/(m.apOf τ y).lv=5):=by
       simp only [Lk.apOf,hd,hyr,hr]
       split<;>simp_all
      exact plain _ hap.1 hap.2 (fun key off ow' nb w' _ _ _ _ _ e c ct he=>by simp at he)
  ·subst hτ
   have hr2:=hm.r r row hr
   by_cases h5:row.ow=5
   ·rcases hform with ⟨rfl,rfl⟩ | ⟨n,rfl⟩
    ·have hap:m.apOf row.τ (.sw r)=⟨[r],[(r,none)],5⟩:=by simp only [Lk.apOf,hd,Cv.row,hr,h5]
     rw [hap]
     refine ⟨some r,none,fun k=>(by simp),fun k=> ?_,fun k hk=>(by rw [hk]; rfl),fun k hk=>(by cases hk),fun k _=>(by simp),by simp,fun key off ow' nb w' how hle hne hh hn e c ct he hc=> ?_⟩
     ·simp only [lkZ]; by_cases hk:r=k
      ·subst hk; simp
      ·simp [hk,Ne.symm hk]
     ·obtain ⟨u,hu,hcr⟩:=hcel e c ct he hc
      refine ⟨u,hu,cell hh hn (fun _=>h5) (fun g hi=> ?_) hcr⟩
      rw [h5] at hi
      have hi:γ.O g=some (.n r (0+e) c):=hi
      rw [hi]
      show In _ ((⟨key,ow',off,some r,none⟩:Ao).f (.n r (0+e) c))
      simp only [Ao.f,if_true,Nat.zero_add]
      exact dn_in how
    ·have hap:m.apOf row.τ (.sl r offy n)=⟨[],[(r,some { row with ow:=4 })],4⟩:=by simp only [Lk.apOf,hd,Cv.row,hr,h5]
     rw [hap]
     refine ⟨none,some r,fun k=>(by simp),fun k=> ?_,fun k hk=>(by cases hk),fun k hk=> ?_,fun k hk=>(by cases hk),by simp,fun key off ow' nb w' how hle hne hh hn e c ct he hc=> ?_⟩
     ·simp only [lkZ]; by_cases hk:r=k
      ·subst hk; simp [hr2]
      ·simp [hk,Ne.symm hk]
     ·cases hk; exact ⟨rfl,row,hr2,h5⟩
     ·obtain ⟨u,hu,hcr⟩:=hcel e c ct he hc
      have hle:ow'<=4:=hle
      refine ⟨u,hu,cell hh hn (fun h=>by omega) (fun g hi=> ?_) hcr⟩
      rw [h5] at hi
      have hi:γ.O g=some (.n r (offy+e) c):=hi
      rw [hi]
      show In _ ((⟨key,ow',off,none,some r⟩:Ao).f (.n r (offy+e) c))
      have:¬ (some r=(none:Option Nat)):=by simp
      simp only [Ao.f,if_neg this,if_true]
      rcases how with rfl | rfl | rfl
      ·exact .inr rfl
      ·exact rfl
      ·omega
   ·have hap:(m.apOf row.τ y=⟨[],[],4⟩/\(row.ow=4\/row.ow=3))\/(m.apOf row.τ y=⟨[],[],2⟩/\∀ e c,nesC r e c row.ow= .bor):=by
     simp only [Lk.apOf,hd,hyr,hr]
     split
     ·contradiction
     ·exact .inl ⟨rfl,.inl (by assumption)⟩
     ·exact .inl ⟨rfl,.inr (by assumption)⟩
     ·refine .inr ⟨rfl,fun e c=> ?_⟩
      simp only [nesC]
    rcases hap with ⟨hap,hk⟩ | ⟨hap,hk⟩
    ·refine plain 4 hap (by simp) (fun key off ow' nb w' how hle hne hh hn e c ct he hc=> ?_)
     obtain ⟨u,hu,hcr⟩:=hcel e c ct he hc
     refine ⟨u,hu,cell hh hn (fun h=>by omega) (fun g hi=> ?_) hcr⟩
     have hi:γ.O g=some .fz:=by rcases hk with hk | hk<;>rw [hk] at hi<;>exact hi
     rw [hi]
     show In _ (some Ow.fz)
     rcases how with rfl | rfl | rfl
     ·exact .inr rfl
     ·exact rfl
     ·omega
    ·refine plain 2 hap (by simp) (fun key off ow' nb w' how hle hne hh hn e c ct he hc=> ?_)
     obtain ⟨u,hu,hcr⟩:=hcel e c ct he hc
     refine ⟨u,hu,cell hh hn (fun h=>by omega) (fun g hi=> ?_) hcr⟩
     rw [hk] at hi
     have h2:ow'=2:=by omega
     subst h2
     show (γ.O g).bind _=none\/(γ.O g).bind _=some Ow.fz
     rcases hi with hi | hi<;>rw [hi]
     ·exact .inl rfl
     ·exact .inr rfl
theorem appT_inv {τ τ':Ty} {xs:List (El τ')} {ys:List (El τ)} {zs:List (El τ')} (h:appT τ τ' xs ys=some zs):∃ e:τ=τ',zs=xs++e▸ys:=by
 cases τ<;>cases τ'<;>first | (simp only [appT,Option.some.injEq] at h; exact ⟨rfl,h.symm⟩) | (simp [appT] at h; done)
theorem app_core (hX:CtxOk X) (hR:Rel X S.lk γ w) (htop:∀ g,w.heap.size<=g->γ.O g=none) (hm:Le m S.lk) {t ty:TypeId} {τ:Ty} (ht:X.elOwn t=some τ) {key:Nat} {y:Cv} {xv yv:Value}
  (hy:RelC S.lk γ y yv) {ys:List (El τ)} (hct:(m.vw y).ct=some (.l τ ys)) (hne:y.row≠some key) {xs:List (El τ)} {ow:Nat} {cs:List Value} (hrow:RowR X γ.O w key ⟨τ,xs,ow⟩ xv cs)
  (hon:ownK ow=true) (hbig:(xs++ys).length<=BIG) (hkey:¬ (200000<=key/\key<300000)) :
  ∃ u w' γ',(Builtin.append_ #[t,t] ty #[xv,yv]).run X.P w= .ok u w' /\
   Step X S γ w (apD key ⟨τ,xs++ys,min ow (m.apOf τ y).lv⟩ (m.apOf τ y).gone (m.apOf τ y).rs) γ' w' /\
   RelC (S.app (apD key ⟨τ,xs++ys,min ow (m.apOf τ y).lv⟩ (m.apOf τ y).gone (m.apOf τ y).rs)).lk γ' (.sw key) u:=by
 obtain ⟨hu,hlk⟩:=elOwn_inv ht
 obtain ⟨i,z,hi,hz,hs,hb,_,hzs⟩:=own_info hX ht
 obtain ⟨⟨news,hvis⟩,_⟩:=vw_vis hm hR hy hct
 obtain ⟨gv,sh,a1,a2,a3,a4,a5,a6,a7⟩:=apOf_ok hm hR hy hct hvis
 obtain ⟨how,hown',hle⟩:=min_own hon a6
 have hownx:xv.ownBlock=none\/True:= .inr trivial
 have htopk:topC key ow= .own (.r key):=by simp [topC,hon]
 have hsl:w.ownsRow 0 (X.id τ) (sz τ) xv xs.length cs/\∀ g,xv.ownBlock=some g->γ.O g=some (.r key):=by
  have:=hrow.top; rw [htopk] at this; exact this
 have hlen:(xs++ys).length=xs.length+ys.length:=List.length_append
 have run:∃ v' w',(Builtin.append_ #[t,t] ty #[xv,yv]).run X.P w= .ok v' w'/\w'.ownsRow 0 (X.id τ) (sz τ) v' (xs.length+ys.length) (cs++news)/\w.grownBy w' xv.ownBlock /\
   ∀ g,v'.ownBlock=some g->xv.ownBlock=some g\/w.heap.size<=g:=by
  rcases hvis.top.2 with ⟨rfl,h0⟩ | ⟨g,o,cap,cur,e,fz,rfl,hg,_,_,_,_⟩
  ·have hn:news=[]:=by have:=hvis.top.1; rw [h0,Nat.zero_mul] at this; exact List.length_eq_zero_iff.1 this
   refine ⟨xv,w,run_append_owned_none (P:=X.P) (w:=w) 0 t ty (X.id τ) i (sz τ) hu hi xv xs.length cs hsl.1,?_,⟨rfl,rfl,rfl,Nat.le_refl _,fun _ _ _=>rfl⟩,fun g hg=> .inl hg⟩
   rw [h0,hn,List.append_nil]; exact hsl.1
  ·exact append_run (P:=X.P) hu hi hz hs rfl hzs (sz_pos τ) hsl.1 (a:=⟨g,o,none⟩) hvis.top.1 (fun j u hj=>by rw [Addr_add]; exact hvis.top.cell rfl hj) (vis_one hvis)
    (by simp only [BIG] at hbig; simp only [maxLen]; omega)
    (by have:=Nat.mul_le_mul (show xs.length+ys.length<=BIG by omega) hb; simp only [BIG] at this; omega)
 obtain ⟨v',w',hrun,hown,hgr,hblk⟩:=run
 have hgk:gv≠some key:=fun h=>hne (a3 key h.symm)
 have hsk:sh≠some key:=fun h=>hne (a4 key h.symm).1
 have hheap:∀ g o,w.heap[g]? =some o->γ.O g≠some (.r key)->w'.heap[g]? =some o:=fun g o hg ho =>
  (hgr.block g (lt_of_some hg) (fun e=>ho (hsl.2 g e.symm))).trans hg
 have hnb0:∀ g o,w.heap[g]? =some o->some g=v'.ownBlock->γ.O g=some (.r key):=fun g o hg h=>by
  rcases hblk g h.symm with h1 | h1
  ·exact hsl.2 g h1
  ·have:=lt_of_some hg; omega
 have hrow':=ap_row (a:=⟨key,min ow (m.apOf τ y).lv,xs.length,gv,sh⟩) (nb:=v'.ownBlock) (ys:=ys) (w':=w') hrow rfl hown how hle hon hgk hsk (fun g h=>h.symm) hheap
  (fun e c ct he hc=>a7 key xs.length _ v'.ownBlock w' how (Nat.min_le_right _ _) hne hheap hnb0 e c ct he hc) hnb0
 obtain ⟨h1,h2⟩:=ap_gen hR htop (a:=⟨key,min ow (m.apOf τ y).lv,xs.length,gv,sh⟩) (row':=⟨τ,xs++ys,min ow (m.apOf τ y).lv⟩) (v:=xv) (v':=v') (nb:=v'.ownBlock) a1 a2 hgk hsk a5
  (fun k hk=>(a4 k hk).2) hgr hsl.2 (fun g h=>by
   refine ⟨(hown.lt g h.symm).2,?_⟩
   rcases hblk g h.symm with h1 | h1
   ·exact .inl (hsl.2 g h1)
   ·exact .inr h1) hrow' hown' hkey
 exact ⟨v',w',_,hrun,h1,h2⟩
theorem neN_ne {a:Option Nat} {b:Nat} (h:neN a b=true):a≠some b:=by
 rintro rfl
 simp [neN,Nat.beq_refl] at h
theorem notIo_ne {r:Nat} (h:notIo r=true):¬ (200000<=r/\r<300000):=by
 rintro ⟨h1,h2⟩
 have h3:Nat.ble 200000 r=true:=Nat.ble_eq_true_of_le h1
 have h4:Nat.ble r 299999=true:=Nat.ble_eq_true_of_le (by omega)
 simp [notIo,h3,h4] at h
theorem app_step (hX:CtxOk X) (hR:Rel X S.lk γ w) (htop:∀ g,w.heap.size<=g->γ.O g=none) (hm:Le m S.lk) {t ty:TypeId} {τ:Ty} (ht:X.elOwn t=some τ) {d:Nat} (hd:d<1500) {x y:Cv} {xv yv:Value}
  (hx:RelC S.lk γ x xv) (hy:RelC S.lk γ y yv) {v:AV} {δ:Dl} (h:m.append τ d x y= .w true v δ) :
  ∃ u w' γ',(Builtin.append_ #[t,t] ty #[xv,yv]).run X.P w= .ok u w'/\Step X S γ w δ γ' w'/\RelA (S.app δ).lk γ' v u:=by
 simp only [Lk.append] at h
 cases hct:(m.vw y).ct with
 | none=>simp [hct] at h
 | some ct =>
  cases ct with
  | l σ ys =>
   simp only [hct] at h
   cases hte:tEq σ τ with
   | false=>simp [hte] at h
   | true =>
    have:=tEq_eq hte; subst this
    cases x with
    | nl ρ' =>
     simp only [hte] at h
     cases hne:neN y.row (d*64) with
     | false=>simp [hne] at h
     | true =>
      simp only [hne,Out.w.injEq] at h
      obtain ⟨hb,rfl,rfl⟩:=h
      have hx:xv= .slice none 0 0:=hx
      subst hx
      have hrow:RowR X γ.O w (d*64) ⟨σ,[],5⟩ (.slice none 0 0) []:=⟨⟨World.ownsRow_nil w 0 _ _,by simp [Value.ownBlock]⟩,fun e c ct he=>by simp at he⟩
      obtain ⟨u,w',γ',h1,h2,h3⟩:=app_core hX hR htop hm (ty:=ty) ht hy hct (neN_ne hne) hrow rfl (by simpa using Nat.le_of_ble_eq_true hb) (by omega)
      have hlv:min 5 (m.apOf σ y).lv=(m.apOf σ y).lv:=by
       have:(m.apOf σ y).lv<=5:=by
        simp only [Lk.apOf]
        repeat' split
        all_goals simp
       omega
      rw [hlv] at h2 h3
      exact ⟨u,w',γ',h1,h2,RelA.of h3⟩
    | sw r =>
     simp only [hte] at h
     cases hne2:neN y.row r&&notIo r with
     | false=>simp [hne2] at h
     | true =>
      have hne2':=hne2
      simp only [Bool.and_eq_true] at hne2'
      obtain ⟨hne,hio⟩:=hne2'
      cases hr:m.r r with
      | none=>simp [hne2,hr] at h
      | some row =>
       obtain ⟨τ',xs,ow⟩:=row
       cases ho:ownK ow with
       | false=>simp [hne2,hr,ho] at h
       | true =>
        cases hz:appT σ τ' xs ys with
        | none=>simp [hne2,hr,ho,hz] at h
        | some zs =>
         simp only [hne2,hr,ho,hz,Out.w.injEq] at h
         obtain ⟨hb,rfl,rfl⟩:=h
         obtain ⟨e,rfl⟩:=appT_inv hz
         subst e
         obtain ⟨_,rfl⟩:=hx
         obtain ⟨u,w',γ',h1,h2,h3⟩:=app_core hX hR htop hm (ty:=ty) ht hy hct (neN_ne hne) (hR.rs r _ (hm.r r _ hr)) ho (Nat.le_of_ble_eq_true hb) (notIo_ne hio)
         exact ⟨u,w',γ',h1,h2,RelA.of h3⟩
    | _=>simp [hte] at h
  | _=>simp [hct] at h
theorem one1_sz {τ:Ty} (h:one1 τ=true):sz τ=1:=by cases τ<;>first | rfl | cases h
theorem one1_cell {τ:Ty} (h:one1 τ=true) (y:El τ):∃ ct,cells τ y=[ct]/\∀ A w u,CellV A w ct u->u=ctVal ct/\u.oneCell'=true/\∀ X O w c,CellR X O w c ct u:=by
 cases τ<;>first | exact ⟨_,rfl,fun _ _ _ h=>by subst h; exact ⟨rfl,rfl,fun _ _ _ _=>rfl⟩⟩ | cases h
theorem cpy_getD {τ:Ty} (xs ys:List (El τ)) {off n:Nat} (h:off+n<=xs.length) (hn:n<=ys.length) (e:Nat) :
  (xs.take off++ys.take n++xs.drop (off+n)).getD e (dflt τ)=if off<=e/\e<off+n then ys.getD (e-off) (dflt τ) else xs.getD e (dflt τ):=by
 simp only [List.append_assoc,List.getD,List.getElem?_append,List.length_take,List.getElem?_take,List.getElem?_drop]
 have h1:min off xs.length=off:=by omega
 have h4:min n ys.length=n:=by omega
 rw [h1,h4]
 by_cases h2:e<off
 ·simp [h2,show ¬ (off<=e/\e<off+n) by omega]
 ·by_cases h3:e<off+n
  ·simp [h2,show e-off<n by omega,show off<=e/\e<off+n by omega]
  ·simp [h2,show ¬ e-off<n by omega,show ¬ (off<=e/\e<off+n) by omega,show off+n+(e-off-n)=e by omega]
theorem dst_inv (hm:Le m S.lk) (hR:Rel X S.lk γ w) {a:Cv} {xv:Value} (hx:RelC S.lk γ a xv) {r off len:Nat} {row:Row} (h:m.dst a=some (r,row,off,len)) (ho:ownK row.ow=true) :
  S.lk.r r=some row/\off+len<=row.xs.length/\((xv= .slice none 0 0/\len=0) \/
   ∃ g n cap o' cap',γ.rv r= .slice (some ⟨g,0,none⟩) n cap/\xv= .slice (some ⟨g,o',none⟩) len cap'/\(len=0\/o'=off*sz row.τ)):=by
 cases a<;>simp only [Lk.dst] at h<;>try (cases h; done)
 ·rename_i k
  cases hk:m.r k with
  | none=>simp [hk] at h
  | some rw' =>
   simp only [hk,Option.some.injEq,Prod.mk.injEq] at h
   obtain ⟨rfl,rfl,rfl,rfl⟩:=h
   have hr2:=hm.r _ _ hk
   refine ⟨hr2,by omega,?_⟩
   have htp:=(hR.rs _ _ hr2).top
   rw [show topC k rw'.ow= .own (.r k) by simp [topC,ho]] at htp
   rw [hx.2]
   rcases htp.1.2 with ⟨h3,h4⟩ | ⟨g1,cap1,cur,h3,_⟩
   ·exact .inl ⟨h3,h4⟩
   ·exact .inr ⟨g1,_,_,0,_,h3,h3,.inr (by simp)⟩
 ·rename_i k o l
  cases hk:m.r k with
  | none=>simp [hk] at h
  | some rw' =>
   simp only [hk,Option.some.injEq,Prod.mk.injEq] at h
   obtain ⟨rfl,rfl,rfl,rfl⟩:=h
   have hr2:=hm.r _ _ hk
   obtain ⟨row',hr',hle,hsub⟩:=hx
   rw [hr2] at hr'; cases hr'
   refine ⟨hr2,hle,?_⟩
   have htp:=(hR.rs _ _ hr2).top
   rw [show topC k rw'.ow= .own (.r k) by simp [topC,ho]] at htp
   rcases hsub with ⟨_,rfl,h0⟩ | ⟨g,o1,n',cap,o',cap',hb',rfl,_,_,_,h0⟩
   ·exact .inl ⟨rfl,h0⟩
   ·rcases htp.1.2 with ⟨h3,h4⟩ | ⟨g1,cap1,cur,h3,_⟩
    ·rw [h3] at hb'; cases hb'
    ·rw [h3] at hb'; injection hb' with h5 h6 h7; injection h5 with h5; injection h5 with h5 h8 _
     subst h5; subst h8
     refine .inr ⟨_,_,_,_,_,h3,rfl,?_⟩
     rcases h0 with h0 | h0
     ·exact .inl h0
     ·exact .inr (by rw [h0,Nat.zero_add])
theorem appT_same {τ:Ty} {xs ys zs:List (El τ)} (h:appT τ τ xs ys=some zs):zs=xs++ys:=by
 cases τ<;>(simp only [appT,Option.some.injEq] at h; exact h.symm)
theorem copy_step (hX:CtxOk X) (hR:Rel X S.lk γ w) (htop:∀ g,w.heap.size<=g->γ.O g=none) (hm:Le m S.lk) {t u ty:TypeId} {a b:Cv} {xv yv:Value} {v:AV} (hx:RelC S.lk γ a xv) (hy:RelC S.lk γ b yv)
  (h:X.copyO m t (.c a) (.c b)= .w0 v δ) :
  ∃ (n:Nat) (w':World) (γ':Gh),v= .c (.i .i64 n)/\(Builtin.copy_ #[t,u] ty #[xv,yv]).run X.P w= .ok (goInt n) w'/\Step X S γ w δ γ' w':=by
 simp only [Ctx.copyO] at h
 cases ht:X.elOwn t with
 | none=>simp [ht] at h
 | some τ =>
  cases hd:m.dst a with
  | none=>simp [ht,hd] at h
  | some q =>
   obtain ⟨r,row,off,len⟩:=q
   cases hc:(m.vw b).ct with
   | none=>simp [ht,hd,hc] at h
   | some ct =>
    cases ct with
    | l σ ys =>
     simp only [ht,hd,hc] at h
     cases h1:ownK row.ow&&(tEq row.τ τ&&one1 τ) with
     | false=>simp [h1] at h
     | true =>
      cases hz:appT σ row.τ (row.xs.take off) (ys.take (min ys.length len)) with
      | none=>simp [h1,hz] at h
      | some zs =>
       simp only [h1,hz,Out.w0.injEq] at h
       obtain ⟨rfl,rfl⟩:=h
       obtain ⟨τr,xs,ow⟩:=row
       simp only [Bool.and_eq_true] at h1
       obtain ⟨ho,hτ,h1⟩:=h1
       have hτ:τr=τ:=tEq_eq hτ
       subst hτ
       have e:σ=τr:=by
        obtain ⟨e,_⟩:=appT_inv hz
        exact e
       subst e
       have hzz':zs=xs.take off++ys.take (min ys.length len):=appT_same hz
       subst hzz'
       obtain ⟨hr2,hle,hxv⟩:=dst_inv hm hR hx hd ho
       obtain ⟨hu,hlk⟩:=elOwn_inv ht
       obtain ⟨i,z,hi,hzz,hs,hb,hcz,hzs⟩:=own_info hX ht
       have hone:=one1_sz h1
       have hsz:(X.P.info? (X.id σ)).map (·.size)=some 1:=by rw [hi,Option.map_some,hs,hone]
       obtain ⟨⟨csy,hvis⟩,_⟩:=vw_vis hm hR hy hc
       have hrow:=hR.rs r _ hr2
       have htopO:topC r ow= .own (.r r):=by simp [topC,ho]
       have hle:off+len<=xs.length:=hle
       let n:=min ys.length len
       have hn1:n<=ys.length:=Nat.min_le_left _ _
       have hn2:n<=len:=Nat.min_le_right _ _
       have hnl:(xs.take off++ys.take n++xs.drop (off+n)).length=xs.length:=by simp; omega
       show ∃ (n':Nat) (w':World) (γ':Gh),AV.c (.i .i64 (n:Nat))= .c (.i .i64 n')/\_/\Step X S γ w (clD r ⟨σ,xs.take off++ys.take n++xs.drop (off+n),ow⟩) γ' w'
       have same:∀ (cv':List Value) (O':OM) (w':World),Chg (·=r) γ w { γ with O:=O',cv:=updN γ.cv r cv' } w'->RowR X O' w' r ⟨σ,xs.take off++ys.take n++xs.drop (off+n),ow⟩ (γ.rv r) cv' ->
         Step X S γ w (clD r ⟨σ,xs.take off++ys.take n++xs.drop (off+n),ow⟩) { γ with O:=O',cv:=updN γ.cv r cv' } w':=fun cv' O' w' hchg hnew =>
        inplace_step (row':=⟨σ,xs.take off++ys.take n++xs.drop (off+n),ow⟩) hR hr2 rfl (by show xs.length<=(xs.take off++ys.take n++xs.drop (off+n)).length; omega) (own_ne1 ho) hchg hnew
       have hyv:(yv= .slice none 0 0/\ys.length=0)\/∃ g2 o2 cap2 cur2 e2 fz2,yv= .slice (some ⟨g2,o2,none⟩) ys.length cap2/\w.heap[g2]? =some (.cells cur2 e2 fz2)/\o2+ys.length*sz σ<=cur2.size/\(cur2.toList.drop o2).take (ys.length*sz σ)=csy:=by
        rcases hvis.top.2 with h | ⟨g,o,c,cu,e',f,h2,h3,_,_,h4,h5⟩
        ·exact .inl h
        ·exact .inr ⟨g,o,c,cu,e',f,h2,h3,h4,h5⟩
       by_cases hn0:n=0
       ·have hnew:xs.take off++ys.take n++xs.drop (off+n)=xs:=by rw [hn0]; simp
        refine ⟨n,w,_,rfl,?_,same (γ.cv r) γ.O w ⟨rfl,rfl,rfl,Nat.le_refl _,fun _ _ _=>⟨rfl,rfl⟩,htop,rfl,fun j hj=>by simp [updN,hj]⟩ (by rw [hnew]; simpa [updN] using hrow)⟩
        rw [hn0]
        rcases hxv with ⟨rfl,_⟩ | ⟨g,n',cap,o',cap',_,rfl,_⟩<;>rcases hyv with ⟨rfl,_⟩ | ⟨g2,o2,cap2,cur2,e2,fz2,rfl,_⟩ <;>
         exact run_copy_none (P:=X.P) w t u ty (X.id σ) _ _ _ _ _ _ hu hsz (by first | exact Nat.zero_min _ | exact Nat.min_zero _ | exact hn0)
       ·rcases hxv with ⟨_,h0⟩ | ⟨g,n',cap,o',cap',hrv,rfl,h0⟩
        ·exact absurd (show n=0 by omega) hn0
        rcases hyv with ⟨_,h00⟩ | ⟨g2,o2,cap2,cur2,e2,fz2,rfl,hg2,hsz2,hcy⟩
        ·exact absurd (show n=0 by omega) hn0
        have ho':o'=off:=by
         rcases h0 with h0 | h0
         ·omega
         ·rw [h0]; show off*sz σ=off; rw [hone,Nat.mul_one]
        subst ho'
        have htp:=hrow.top
        rw [show topC r (Row.ow ⟨σ,xs,ow⟩)= .own (.r r) from htopO] at htp
        obtain ⟨hown,howner⟩:=htp
        rcases hown.2 with ⟨h3,_⟩ | ⟨g1,cap1,cur,h3,_,hg,hnc,hcm,hcs,htk⟩
        ·rw [h3] at hrv; cases hrv
        have hgo:g1=g:=by
         rw [h3] at hrv; injection hrv with h _ _; injection h with h; injection h with h2 h3 _
        subst hgo
        have hxl:xs.length<=cur.size:=by
         have:xs.length<=cap1:=hnc
         rw [hcs,show sz σ=1 from hone]; omega
        have hcsyl:csy.length=ys.length:=by have:=hvis.top.1; rwa [hone,Nat.mul_one] at this
        have hcsl:(csy.take n).length=n:=by rw [List.length_take]; omega
        have hcel:∀ j,j<ys.length->∃ ct u,cells σ (ys.getD j (dflt σ))=[ct]/\csy[j]? =some u/\u=ctVal ct/\u.oneCell'=true/\∀ X O w c,CellR X O w c ct u:=by
         intro j hj
         obtain ⟨ct,hct,hcc⟩:=one1_cell h1 (ys.getD j (dflt σ))
         obtain ⟨u,hu',hv⟩:=hvis.cel j 0 ct hj (by rw [hct]; rfl)
         rw [hone,Nat.mul_one,Nat.add_zero] at hu'
         obtain ⟨q1,q2,q3⟩:=hcc _ _ _ hv
         exact ⟨ct,u,hct,hu',q1,q2,q3⟩
        have hrun:=run_copy_row (P:=X.P) w t u ty (X.id σ) g1 o' len cap' ⟨g2,o2,none⟩ ys.length cap2 cur _ (csy.take n) hu hsz hg hcsl
         (fun j v hj=>by
          have hjn:j<n:=by have:=(List.getElem?_eq_some_iff.1 hj).1; rwa [hcsl] at this
          rw [List.getElem?_take,if_pos hjn,← hcy,List.getElem?_take,if_pos (by rw [hone]; omega),List.getElem?_drop] at hj
          have:(Addr.add ⟨g2,o2,none⟩ j)=⟨g2,o2+j,none⟩:=by unfold Addr.add; split<;>simp_all
          rw [this]
          simp only [World.cell?,hg2]
          simpa using hj)
         (by rw [hcsl]; omega)
         (fun v hv=>by
          obtain ⟨j,hj⟩:=List.mem_iff_getElem?.1 hv
          have hjn:j<n:=by have:=(List.getElem?_eq_some_iff.1 hj).1; rwa [hcsl] at this
          rw [List.getElem?_take,if_pos hjn] at hj
          obtain ⟨ct,u,_,q,_,q2,_⟩:=hcel j (by omega)
          rw [hj] at q; cases q; exact q2)
        have hOg:γ.O g1=some (.r r):=howner g1 (by rw [h3]; rfl)
        have hcvl:(γ.cv r).length=xs.length:=by have:=hown.1; rwa [hone,Nat.mul_one] at this
        rw [hcsl] at hrun
        refine ⟨n,_,_,rfl,hrun,same (Soft.repl (γ.cv r) o' (csy.take n)) γ.O _ ?_ ?_⟩
        ·exact ⟨rfl,rfl,rfl,by simp,fun g hg' hne=>⟨set_other w _ _ g (fun h=>by have:=(hne r rfl).1; rw [h,hOg] at this; exact this rfl),rfl⟩,
          fun g hg'=>htop g (by simpa using hg'),rfl,fun j hj=>by simp [updN,hj]⟩
        ·have hrepl:cur.toList.take o'++csy.take n++cur.toList.drop (o'+n)=Soft.repl cur.toList o' (csy.take n):=by simp only [Soft.repl,hcsl]
         refine ⟨?_,fun e c ct he hct=> ?_⟩
         ·show Sl X γ.O _ (topC r ow) σ _ (xs.take o'++ys.take n++xs.drop (o'+n)).length _
          rw [hnl,htopO,hrepl]
          refine ⟨⟨by rw [repl_length _ _ _ (by rw [hcvl,hcsl]; omega),hcvl,hone,Nat.mul_one],.inr ⟨g1,cap1,_,h3,Nat.zero_le _,set_same w _ _ _ _ _ hg,hnc,hcm,?_,?_⟩⟩,howner⟩
          ·rw [List.size_toArray,repl_length _ _ _ (by rw [hcsl,Array.length_toList]; omega),Array.length_toList,hcs]
          ·rw [List.toList_toArray,take_repl _ _ _ _ (by rw [hcsl]; show o'+n<=xs.length*sz σ; rw [hone]; omega) (by show xs.length*sz σ<=cur.toList.length; rw [hone,Nat.mul_one]; simpa using hxl),htk]
         ·have he2:e<xs.length:=by
           have:e<(xs.take o'++ys.take n++xs.drop (o'+n)).length:=he
           rwa [hnl] at this
          have hct0:(cells σ ((xs.take o'++ys.take n++xs.drop (o'+n)).getD e (dflt σ)))[c]? =some ct:=hct
          have hc0:c=0:=by have:=(List.getElem?_eq_some_iff.1 hct0).1; rw [cells_length,hone] at this; omega
          subst hc0
          rw [cpy_getD _ _ (by omega) hn1] at hct0
          show ∃ u,(Soft.repl (γ.cv r) o' (csy.take n))[e*sz σ+0]? =some u/\CellR X γ.O _ (nesC r e 0 ow) ct u
          rw [hone,Nat.mul_one,Nat.add_zero]
          by_cases hin:o'<=e/\e<o'+n
          ·rw [if_pos hin] at hct0
           obtain ⟨j,rfl⟩:∃ j,e=o'+j:=⟨e-o',by omega⟩
           have hj:j<n:=by omega
           rw [Nat.add_sub_cancel_left] at hct0
           obtain ⟨ct',u,q1,q2,q3,_,q4⟩:=hcel j (by omega)
           rw [q1] at hct0
           simp only [List.getElem?_cons_zero,Option.some.injEq] at hct0
           subst hct0
           exact ⟨u,by rw [repl_get_in _ _ _ _ (by rw [hcsl]; exact hj) (by rw [hcsl,hcvl]; omega),List.getElem?_take,if_pos hj,q2],q4 _ _ _ _⟩
          ·rw [if_neg hin] at hct0
           obtain ⟨u,hu',hcell⟩:=hrow.cel e 0 ct he2 hct0
           have hu':(γ.cv r)[e*sz σ+0]? =some u:=hu'
           rw [hone,Nat.mul_one,Nat.add_zero] at hu'
           refine ⟨u,?_,hcell.re (fun g o hg' hi'=>⟨(set_other w _ _ g (fun h=>nes_ne hi' (h▸hOg))).trans hg',hi'⟩) id⟩
           rcases Nat.lt_or_ge e o' with h | h
           ·rw [repl_get_lt _ _ _ _ h (by rw [hcvl]; omega)]; exact hu'
           ·rw [repl_get_ge _ _ _ _ (by rw [hcsl]; omega) (by rw [hcsl,hcvl]; omega)]; exact hu'
    | _=>simp [ht,hd,hc] at h
def Chgs (X:Ctx) (S:St) (γ:Gh) (w:World) (ρ:Operand->Value) (o:Oper) (v:AV) (δ:Dl):Prop :=
 ∃ r u w' γ',(Go.execOp ρ o).run X.P w= .ok r w'/\(r= .value u\/(r= .skip/\u=undef))/\RelA (S.app δ).lk γ' v u/\Step X S γ w δ γ' w'
theorem Chgs.of {o:Oper} {v:AV} {s:Sem Value} (he:Go.execOp ρ o=(do let x←s; pure (.value x)))
  (h:∃ u w' γ',s.run X.P w= .ok u w'/\Step X S γ w δ γ' w'/\RelA (S.app δ).lk γ' v u):Chgs X S γ w ρ o v δ:=by
 obtain ⟨u,w',γ',h1,h2,h3⟩:=h
 exact ⟨.value u,u,w',γ',by rw [he,Sem.run_bind,h1]; rfl,.inl rfl,h3,h2⟩
theorem Chgs.ofU {o:Oper} {s:Sem Unit} (he:Go.execOp ρ o=(do s; pure .skip))
  (h:∃ w' γ',s.run X.P w= .ok () w'/\Step X S γ w δ γ' w'):Chgs X S γ w ρ o u8 δ:=by
 obtain ⟨w',γ',h1,h2⟩:=h
 exact ⟨.skip,undef,w',γ',by rw [he,Sem.run_bind,h1]; rfl,.inr ⟨rfl,rfl⟩,⟨[],rfl,.nil⟩,h2⟩
theorem run_newVar {P:Program} (t:TypeId) (v:Value) (w:World):(newVar t v).run P w= .ok ⟨w.heap.size,0,none⟩ (w.alloc (.cells v.cells t)):=by
 rfl
theorem run_zero {P:Program} {t:TypeId} {i:TypeInfo} {z:Value} (hi:P.info? t=some i) (hz:i.zero=some z) (w:World):(zeroValue t).run P w= .ok z w:=by
 simp [zeroValue,typeInfo,hi,hz]
theorem alloc_step (hR:Rel X S.lk γ w) (htop:∀ g,w.heap.size<=g->γ.O g=none) {t:TypeId} {cs:List Cv} (h:X.zero t=some cs) (key:Nat) (hkey:1000<=key) :
  ∃ u w' γ',(Instr.alloc t true (.tuple #[])).run X.P w= .ok u w'/\Step X S γ w (nvD key cs) γ' w'/\RelA (S.app (nvD key cs)).lk γ' (.c (.pv key 0)) u:=by
 obtain ⟨i,z,hi,hz,hr⟩:=zero_ok (M:=(S.app (nvD key cs)).lk) (γ:=nvG γ w key) h
 obtain ⟨h1,h2⟩:=nv_step key cs hkey hR htop z.cells.toList t hr
 refine ⟨_,_,_,?_,h1,RelA.of h2⟩
 simp only [Instr.alloc,Sem.run_bind,run_zero hi hz,Result.andThen_ok,run_newVar,Sem.run_pure]
theorem box_step (hR:Rel X S.lk γ w) (htop:∀ g,w.heap.size<=g->γ.O g=none) {t:TypeId} {cs:List Cv} {v:Value} (hv:RelL S.lk γ cs v.cells.toList) (key:Nat) (hkey:1000<=key) :
  let cs':=fmap (Dl.map { Dl.z with kv:=[key] }) cs
  ∃ u w' γ',(Instr.box t v).run X.P w= .ok u w'/\Step X S γ w (nvD key cs') γ' w'/\RelA (S.app (nvD key cs')).lk γ' (.c (.pv key 0)) u:=by
 intro cs'
 have hmap:(nvD key cs').map=(Dl.map { Dl.z with kv:=[key] }):=by
  funext x; cases x<;>rfl
 have hr:=hv.map (nv_keep (key:=key) (cs:=cs') hR)
 rw [hmap,← fmap_eq] at hr
 obtain ⟨h1,h2⟩:=nv_step key cs' hkey hR htop v.cells.toList t hr
 refine ⟨_,_,_,?_,h1,RelA.of h2⟩
 simp only [Instr.box,Sem.run_bind,run_newVar,Result.andThen_ok,Sem.run_pure]
theorem store_step (hR:Rel X S.lk γ w) (htop:∀ g,w.heap.size<=g->γ.O g=none) (hm:Le m S.lk) {x:Cv} {vl:List Cv} {av v:Value} {t:TypeId} (hx:RelC S.lk γ x av)
  (hv:RelL S.lk γ vl v.cells.toList) (hs:vl.length=szOf X.P t) (hp:0<vl.length) {u:AV} (h:m.store x vl= .w0 u δ\/m.store x vl= .w true u δ) :
  u=u8/\∃ w' γ',(Instr.storeAt t av v).run X.P w= .ok () w'/\Step X S γ w δ γ' w':=by
 cases x with
 | pv k c =>
  simp only [Lk.store] at h
  cases hk:m.v k with
  | none=>simp [hk] at h
  | some old =>
   simp only [hk] at h
   cases hb:Nat.ble (c+vl.length) old.length with
   | false=>simp [hb] at h
   | true =>
    simp only [hb,Out.w0.injEq,reduceCtorEq,or_false] at h
    obtain ⟨rfl,rfl⟩:=h
    obtain ⟨w',h1,h2⟩:=vs_step k c old vl hR htop hx (hm.v k old hk) (Nat.le_of_ble_eq_true hb) hv hs hp
    exact ⟨rfl,w',γ,h1,h2⟩
 | pe r e c =>
  simp only [Lk.store] at h
  cases hr:m.r r with
  | none=>simp [hr] at h
  | some row =>
   simp only [hr] at h
   cases ho:ownK row.ow with
   | false=>simp [ho] at h
   | true =>
    cases ha:m.absorbs e c vl with
    | none=>simp [ho,ha] at h
    | some a =>
     cases hb:Nat.ble (c+vl.length) (sz row.τ) with
     | false=>simp [ho,ha,hb] at h
     | true =>
      cases hy:mkEl row.τ (repl (row.cs e) c a.cts) with
      | none=>simp [ho,ha,hb,hy] at h
      | some y =>
       simp only [ho,ha,hb,hy] at h
       have hb:=Nat.le_of_ble_eq_true hb
       cases hf:allFlat vl with
       | true =>
        simp only [hf,Out.w.injEq,reduceCtorEq,false_or] at h
        obtain ⟨h0,rfl,rfl⟩:=h
        obtain ⟨w',γ',h1,h2⟩:=pf_step hR htop hm hr ho hf ha hb hy h0 hv hx hs hp
        exact ⟨rfl,w',γ',h1,h2⟩
       | false =>
        simp only [hf] at h
        cases hn:nodupN (r::(keys a.mv++keys a.sh)) with
        | false=>simp [hn] at h
        | true =>
         simp only [hn,Out.w.injEq,reduceCtorEq,false_or] at h
         obtain ⟨h0,rfl,rfl⟩:=h
         obtain ⟨w',γ',h1,h2⟩:=pe_step hR htop hm hr ho ha hb hy h0 (nodupN_iff.1 hn) hv hx hs hp
         exact ⟨rfl,w',γ',h1,h2⟩
 | pn r e c k d =>
  simp only [Lk.store] at h
  cases hr:m.r r with
  | none=>simp [hr] at h
  | some row =>
   simp only [hr] at h
   cases ho:Nat.beq row.ow 5 with
   | false=>simp [ho] at h
   | true =>
    cases hf:allFlat vl with
    | false=>simp [ho,hf] at h
    | true =>
     cases hc:m.cts vl with
     | none=>simp [ho,hf,hc] at h
     | some cts =>
      simp only [ho,hf,hc,nth_eq] at h
      cases hn:(row.cs e)[c]? with
      | none=>simp [hn] at h
      | some ct =>
       cases ct with
       | l τ ys =>
        simp only [hn] at h
        cases hb:Nat.ble (d+vl.length) (sz τ) with
        | false=>simp [hb] at h
        | true =>
         cases hy:mkEl τ (repl (cells τ (ys.getD k (dflt τ))) d cts) with
         | none=>simp only [hb,hy,reduceCtorEq,or_self] at h
         | some y =>
          cases hz:mkEl row.τ (repl (row.cs e) c [.l τ (ys.set k y)]) with
          | none=>simp only [hb,hy,hz,reduceCtorEq,or_self] at h
          | some z =>
           simp only [hb,hy,hz,Out.w.injEq,reduceCtorEq,false_or] at h
           obtain ⟨h0,rfl,rfl⟩:=h
           obtain ⟨w',h1,h2⟩:=pn_step hR htop hm hr (nat_beq ho) hf hc hn (Nat.le_of_ble_eq_true hb) hy hz h0 hv hx hs hp
           exact ⟨rfl,w',γ,h1,h2⟩
       | _=>simp [hn] at h
 | _=>simp [Lk.store] at h
theorem chg_ok (hX:CtxOk X) (hR:Rel X S.lk γ w) (htop:∀ g,w.heap.size<=g->γ.O g=none) (hm:Le m S.lk) {evp:List (Nat×Bool)->TypeId->Operand->AV} (hev:∀ ty x,RelA S.lk γ (evp [] ty x) (ρ x))
  {d:Nat} (hd:d<1500) {o:Oper} {v:AV} (h:stepO X evp m d o.type o.op= .w0 v δ\/stepO X evp m d o.type o.op= .w true v δ):Chgs X S γ w ρ o v δ:=by
 obtain ⟨dst,op,type,pos,aft,guard⟩:=o
 simp only at h
 cases op with
 | alloc t =>
  simp only [stepO] at h
  cases hz:X.zero t with
  | none=>simp [hz] at h
  | some cs =>
   simp only [hz,Out.w0.injEq,reduceCtorEq,or_false] at h
   obtain ⟨rfl,rfl⟩:=h
   exact Chgs.of rfl (alloc_step hR htop hz _ (by omega))
 | box t x =>
  simp only [stepO] at h
  cases hc:(evp [] t x).cells with
  | none=>simp [hc] at h
  | some cs =>
   cases hb:Nat.beq cs.length (szOf X.P t) with
   | false=>simp [hc,hb] at h
   | true =>
    simp only [hc,hb,Out.w0.injEq,reduceCtorEq,or_false] at h
    obtain ⟨rfl,rfl⟩:=h
    exact Chgs.of rfl (box_step hR htop (cells_ok hR (hev t x) hc) _ (by omega))
 | buildSlice t n parts =>
  simp only [stepO] at h
  cases ht:X.elOwn t with
  | none=>simp [ht] at h
  | some τ =>
   simp only [ht] at h
   cases h1:Nat.beq parts.size n&&Nat.ble (n*sz τ) 16777216 with
   | false=>simp [h1] at h
   | true =>
    cases hp:partsOf (evp [] type) (sz τ) 0 parts.toList with
    | none=>simp [h1,hp] at h
    | some pss =>
     simp only [h1,hp] at h
     cases hb:m.newEls τ 0 pss with
     | none=>simp [hb] at h
     | some b =>
      simp only [hb] at h
      cases hn:nodupN (d*64::(keys b.mv++keys b.sh)) with
      | false=>simp [hn] at h
      | true =>
       simp only [hn] at h
       simp only [Bool.and_eq_true] at h1
       obtain ⟨h1,h2⟩:=h1
       have h2:=Nat.le_of_ble_eq_true h2
       cases hby:τ.isByte with
       | true =>
        simp only [hby,Out.w.injEq,reduceCtorEq,false_or] at h
        obtain ⟨h0,rfl,rfl⟩:=h
        obtain ⟨v,w',γ',g1,g2,g3⟩:=lit_step hX hR htop hm ht (hev type) (nat_beq h1) h2 hp hb (nodupN_iff.1 hn) (fun _=>h0) (by omega)
        exact Chgs.of rfl ⟨v,w',γ',g1,g2,RelA.of g3⟩
       | false =>
        simp only [hby,Out.w0.injEq,reduceCtorEq,or_false] at h
        obtain ⟨rfl,rfl⟩:=h
        obtain ⟨v,w',γ',g1,g2,g3⟩:=lit_step hX hR htop hm ht (hev type) (nat_beq h1) h2 hp hb (nodupN_iff.1 hn) (fun e=>by rw [hby] at e; cases e) (by omega)
        exact Chgs.of rfl ⟨v,w',γ',g1,g2,RelA.of g3⟩
 | store t x y =>
  simp only [stepO] at h
  have hr:=hev type x
  cases hx:evp [] type x with
  | c a =>
   cases hc:(evp [] t y).cells with
   | none=>simp [hx,hc] at h
   | some cs =>
    simp only [hx,hc] at h
    cases hb:Nat.beq cs.length (szOf X.P t)&&Nat.ble 1 cs.length with
    | false=>simp [hb] at h
    | true =>
     simp only [hb] at h
     simp only [Bool.and_eq_true] at hb
     rw [hx] at hr
     have hun:a≠ .un:=by rintro rfl; simp [Lk.store] at h
     obtain ⟨rfl,w',γ',h1,h2⟩:=store_step hR htop hm (RelA.to hr hun) (cells_ok hR (hev t y) hc) (nat_beq hb.1) (Nat.le_of_ble_eq_true hb.2) h
     exact Chgs.ofU rfl ⟨w',γ',h1,h2⟩
  | _=>simp [hx] at h
 | makeSlice t n c =>
  simp only [stepO] at h
  cases ht:X.elOwn t with
  | none=>simp [ht] at h
  | some τ =>
   cases hn:(evp [] type n).int with
   | none=>simp [ht,hn] at h
   | some a =>
    cases hc:(evp [] type c).int with
    | none=>simp [ht,hn,hc] at h
    | some b =>
     simp only [ht,hn,hc,Out.w.injEq,reduceCtorEq,false_or,Bool.and_eq_true,beq_iff_eq,decide_eq_true_eq] at h
     obtain ⟨⟨rfl,h0,h1⟩,rfl,rfl⟩:=h
     obtain ⟨k,hk⟩:=int_inv (hev type n) hn
     obtain ⟨k',hk'⟩:=int_inv (hev type c) hc
     have h1:=Nat.le_of_ble_eq_true h1
     obtain ⟨v,w',γ',g1,g2,g3⟩:=make_step hX hR htop ht (k:=k) (k':=k') h1 (d*64) (by omega)
     rw [show ((a.toNat:Nat):Int)=a by omega] at g1
     exact Chgs.of rfl ⟨v,w',γ',by rw [hk,hk']; exact g1,g2,RelA.of g3⟩
 | call c =>
  obtain ⟨callee,args,argTypes⟩:=c
  cases callee with
  | builtin b =>
   simp only [stepO] at h
   revert h; split
   ·intro h; exfalso; revert h; simp only [Ctx.lenO,lenN]
    repeat' split
    all_goals simp
   ·rename_i x y t u ha ht
    intro h
    have ha':args= #[x,y]:=Array.toList_inj.1 ha
    have ht':argTypes= #[t,u]:=Array.toList_inj.1 ht
    subst ha'; subst ht'
    simp only [Ctx.appO] at h
    revert h; split
    ·rename_i τ a b he hb hxa hyb
     intro h
     have h:m.append τ d a b= .w true v δ:=by
      rcases h with h | h
      ·exfalso; revert h; simp only [Lk.append]; repeat' split
       all_goals simp
      ·exact h
     have:=nat_beq hb; subst this
     have hx:=hev t x; rw [hxa] at hx
     have hy:=hev t y; rw [hyb] at hy
     have hau:a≠ .un:=by
      rintro rfl; revert h; simp only [Lk.append]; repeat' split
      all_goals simp_all
     have hbu:b≠ .un:=by
      rintro rfl; revert h; simp only [Lk.append]; simp [Lk.vw,Vw.ct]
     obtain ⟨r,w',γ',g1,g2,g3⟩:=app_step (ty:=type) hX hR htop hm he hd (RelA.to hx hau) (RelA.to hy hbu) h
     refine ⟨.value r,r,w',γ',?_,.inl rfl,g3,g2⟩
     simp only [Go.execOp,resolve,invoke,Sem.run_bind,Sem.run_pure,Result.andThen_ok,builtin,List.map_toArray,List.map,g1]
    ·simp
   ·rename_i x t ha ht
    intro h
    have ha':args= #[x]:=Array.toList_inj.1 ha
    have ht':argTypes= #[t]:=Array.toList_inj.1 ht
    subst ha'; subst ht'
    have hx:=hev t x
    cases hxe:evp [] t x with
    | c a =>
     rw [hxe] at h hx
     cases a with
     | sl r off len =>
      have h:X.clearO m t (.c (.sl r off len))= .w0 v δ:=by
       rcases h with h | h
       ·exact h
       ·exfalso; revert h; simp only [Ctx.clearO]; repeat' split
        all_goals simp
      obtain ⟨rfl,w',γ',g1,g2⟩:=clear_step hX hR htop hm hx h type
      refine ⟨.value (.tuple #[]),_,w',γ',?_,.inl rfl,⟨[],rfl,.nil⟩,g2⟩
      simp only [Go.execOp,resolve,invoke,Sem.run_bind,Sem.run_pure,Result.andThen_ok,builtin,List.map_toArray,List.map,g1]
     | _=>simp [Ctx.clearO] at h
    | _=>rw [hxe] at h; simp [Ctx.clearO] at h
   ·rename_i x y t u ha ht
    intro h
    have ha':args= #[x,y]:=Array.toList_inj.1 ha
    have ht':argTypes= #[t,u]:=Array.toList_inj.1 ht
    subst ha'; subst ht'
    have hx:=hev t x
    have hy:=hev u y
    have h:X.copyO m t (evp [] t x) (evp [] u y)= .w0 v δ:=by
     rcases h with h | h
     ·exact h
     ·exfalso; revert h; simp only [Ctx.copyO]; repeat' split
      all_goals simp
    cases hxe:evp [] t x with
    | c a =>
     cases hye:evp [] u y with
     | c b =>
      rw [hxe,hye] at h
      rw [hxe] at hx; rw [hye] at hy
      have hau:a≠ .un:=by
       rintro rfl
       cases he:X.elOwn t<;>simp [Ctx.copyO,he,Lk.dst] at h
      have hbu:b≠ .un:=by
       rintro rfl
       cases he:X.elOwn t<;>cases hq:m.dst a<;>simp [Ctx.copyO,he,hq,Lk.vw,Vw.ct] at h
      obtain ⟨n,w',γ',rfl,g1,g2⟩:=copy_step (ty:=type) (u:=u) hX hR htop hm (RelA.to hx hau) (RelA.to hy hbu) h
      refine ⟨.value (goInt n),_,w',γ',?_,.inl rfl,rfl,g2⟩
      simp only [Go.execOp,resolve,invoke,Sem.run_bind,Sem.run_pure,Result.andThen_ok,builtin,List.map_toArray,List.map,g1]
     | _=>rw [hxe,hye] at h; simp [Ctx.copyO] at h
    | _=>rw [hxe] at h; simp [Ctx.copyO] at h
   ·intro h; exfalso; revert h; simp only [mmO]; repeat' split
    all_goals simp
   ·intro h; exfalso; revert h; simp only [mmO]; repeat' split
    all_goals simp
   ·simp
  | value f=>simp [stepO] at h
  | invoke r n=>simp [stepO] at h
 | move x=>simp [stepO] at h
 | assign x=>simp [stepO] at h
 | pick c a b =>
  exfalso; revert h; simp only [stepO]; repeat' split
  all_goals simp
 | build t ps =>
  exfalso; revert h; simp only [stepO]; repeat' split
  all_goals simp
 | load t x =>
  exfalso; revert h; simp only [stepO]; repeat' split
  all_goals simp
 | nilCheck x =>
  exfalso; revert h; simp only [stepO]; repeat' split
  all_goals simp
 | binOp op t x y c =>
  exfalso; revert h; simp only [stepO,Ctx.binT]
  have hb:∀ (a b:AV),¬ (binO op a b= .w0 v δ\/binO op a b= .w true v δ):=by
   intro a b; simp only [binO]; repeat' split
   all_goals simp
  repeat' split
  all_goals first | exact hb _ _ | simp
 | unOp op t x =>
  exfalso; revert h; simp only [stepO,unO]; repeat' split
  all_goals simp
 | convert t u x =>
  exfalso; revert h; simp only [stepO,Ctx.convO]; repeat' split
  all_goals simp
 | makeFunc fn first caps =>
  exfalso; revert h; cases fn<;>simp only [stepO]<;>repeat' split
  all_goals simp
 | slice t x lo hi mx =>
  exfalso; revert h; simp only [stepO]
  have hb:∀ (a:AV) (l k:Option Int),¬ (m.sliceA a l k= .w0 v δ\/m.sliceA a l k= .w true v δ):=by
   intro a l k; simp only [Lk.sliceA]; repeat' split
   all_goals simp
  repeat' split
  all_goals first | exact hb _ _ _ | simp
 | fieldAddr t x f =>
  exfalso; revert h; simp only [stepO]; repeat' split
  all_goals simp
 | field t x f =>
  exfalso; revert h; simp only [stepO]; repeat' split
  all_goals simp
 | indexAddr t x i =>
  exfalso; revert h; simp only [stepO,Lk.indexA]; repeat' split
  all_goals simp
 | index t x i =>
  exfalso; revert h; simp only [stepO]; repeat' split
  all_goals simp
 | extract x i =>
  exfalso; revert h; simp only [stepO]; repeat' split
  all_goals simp
 | _=>simp [stepO] at h
structure Rb where
 r:Nat->Option (Nat×Nat)
 d:Option Ow
 v:Nat->Option Ow
def topO (k d:Nat):Option Ow:=match ownK d with | true=>some (.r k) | false=>match d with | 3=>some .fz | _=>none
def nesO (k d e c:Nat):Option Ow:=match d with | 5=>some (.n k e c) | 4=>some .fz | 3=>some .fz | _=>none
def Rb.f (a:Rb):Ow->Option Ow
 | .r r=>match a.r r with | some (k,d)=>topO k d | none=>a.d
 | .n r e c=>match a.r r with | some (k,d)=>nesO k d e c | none=>a.d
 | .v k=>a.v k
 | .fz=>some .fz
 | .x=>some .x
theorem leK_inv {d a:Nat} (h:leK d a=true):d=1\/(d=2/\ownK a=true)\/(d=3/\(a=3\/a=4\/a=5))\/(d=4/\(a=4\/a=5))\/(d=5/\a=5):=by
 revert h; simp only [leK]; split
 ·simp
 ·intro h; simp [h]
 ·split<;>simp
 ·split<;>simp
 ·split<;>simp
 ·simp
theorem RowR.relabel {a:Rb} {O O':OM} {r k d:Nat} {row:Row} {v:Value} {cs:List Value} (h:RowR X O w r row v cs) (ha:ownK row.ow=true->a.r r=some (k,d)) (hle:leK d row.ow=true)
  (hb:∀ g o,w.heap[g]? =some o->InR r row.ow (O g)->w'.heap[g]? =some o/\O' g=(O g).bind a.f):RowR X O' w' k { row with ow:=d } v cs:=by
 obtain ⟨τ,xs,ow⟩:=row
 simp only at ha hle hb
 have no:(none:Option Ow).bind a.f=none:=rfl
 have fz:(some Ow.fz).bind a.f=some .fz:=rfl
 refine h.re hle (fun g o hg hi=> ?_) (fun e c g o hg hi=> ?_)
 ·obtain ⟨h1,h2⟩:=hb g o hg (.inl hi)
  refine ⟨h1,?_⟩
  rw [h2]
  simp only at hi
  cases hown:ownK ow with
  | true =>
   have h3:topC r ow= .own (.r r):=by simp [topC,hown]
   rw [h3] at hi
   have hi:O g=some (.r r):=hi
   rw [hi]
   show In (topC k d) (a.f (.r r))
   simp only [Rb.f,ha hown]
   rcases leK_inv hle with rfl | ⟨rfl,_⟩ | ⟨rfl,_⟩ | ⟨rfl,_⟩ | ⟨rfl,_⟩
   ·exact .inl rfl
   all_goals exact rfl
  | false =>
   have hnot:ow≠4/\ow≠5:=by constructor<;>(rintro rfl; simp [ownK] at hown)
   have h3:(ow=3/\topC r ow= .fz)\/(ow≠3/\topC r ow= .bor):=by
    by_cases h:ow=3
    ·subst h; exact .inl ⟨rfl,rfl⟩
    ·refine .inr ⟨h,?_⟩
     simp only [topC,hown]
     try (split<;>first | exact absurd rfl h | rfl)
   rcases h3 with ⟨rfl,h3⟩ | ⟨hn3,h3⟩
   ·have hi:O g=some .fz:=hi
    rw [hi,fz]
    rcases leK_inv hle with rfl | ⟨_,h⟩ | ⟨rfl,_⟩ | ⟨_,h⟩ | ⟨_,h⟩
    ·exact .inr rfl
    ·rw [hown] at h; cases h
    ·exact rfl
    ·rcases h with h | h<;>cases h
    ·cases h
   ·rw [h3] at hi
    rcases leK_inv hle with rfl | ⟨_,h⟩ | ⟨_,h⟩ | ⟨_,h⟩ | ⟨_,h⟩
    ·rcases hi with hi | hi<;>rw [hi]
     ·exact .inl rfl
     ·exact .inr rfl
    ·rw [hown] at h; cases h
    ·omega
    ·omega
    ·omega
 ·obtain ⟨h1,h2⟩:=hb g o hg (.inr ⟨e,c,hi⟩)
  refine ⟨h1,?_⟩
  rw [h2]
  simp only at hi
  by_cases h5:ow=5
  ·subst h5
   have hi:O g=some (.n r e c):=hi
   rw [hi]
   show In (nesC k e c d) (a.f (.n r e c))
   simp only [Rb.f,ha rfl]
   rcases leK_inv hle with rfl | ⟨rfl,_⟩ | ⟨rfl,_⟩ | ⟨rfl,_⟩ | ⟨rfl,_⟩
   ·exact .inl rfl
   ·exact .inl rfl
   all_goals exact rfl
  ·by_cases h43:ow=4\/ow=3
   ·have hi:O g=some .fz:=by rcases h43 with rfl | rfl<;>exact hi
    rw [hi,fz]
    rcases leK_inv hle with rfl | ⟨rfl,_⟩ | ⟨rfl,_⟩ | ⟨rfl,_⟩ | ⟨rfl,h⟩
    ·exact .inr rfl
    ·exact .inr rfl
    ·exact rfl
    ·exact rfl
    ·exact absurd h h5
   ·have h3:nesC r e c ow= .bor:=by
     simp only [nesC]
     try (split<;>first | rfl | (exfalso; omega))
    rw [h3] at hi
    rcases leK_inv hle with rfl | ⟨rfl,_⟩ | ⟨rfl,h⟩ | ⟨rfl,h⟩ | ⟨rfl,h⟩
    ·rcases hi with hi | hi<;>rw [hi]
     ·exact .inl rfl
     ·exact .inr rfl
    ·rcases hi with hi | hi<;>rw [hi]
     ·exact .inl rfl
     ·exact .inr rfl
    ·omega
    ·omega
    ·omega
theorem row_same {O O':OM} {k:Nat} {row:Row} {v:Value} {cs:List Value} (h:RowR X O w k row v cs)
  (hf:∀ g o,w.heap[g]? =some o->InR k row.ow (O g)->w'.heap[g]? =some o/\O' g=O g):RowR X O' w' k row v cs:=by
 refine ⟨h.top.re (c':=topC k row.ow) (fun g o hg hi=> ?_) id,fun e c ct he hc=> ?_⟩
 ·obtain ⟨h1,h2⟩:=hf g o hg (.inl hi); exact ⟨h1,h2▸hi⟩
 ·obtain ⟨u,hu,hr⟩:=h.cel e c ct he hc
  exact ⟨u,hu,hr.re (fun g o hg hi=>by obtain ⟨h1,h2⟩:=hf g o hg (.inr ⟨e,c,hi⟩); exact ⟨h1,h2▸hi⟩) id⟩
inductive RelAs (m:Lk) (γ:Gh):List AV->List Value->Prop
 | nil:RelAs m γ [] []
 | cons {x:AV} {v:Value} {l:List AV} {u:List Value}:RelA m γ x v->RelAs m γ l u->RelAs m γ (x::l) (v::u)
structure Pre (X:Ctx) (g:Sig) (acs:List AC) (vin:List (List Ct)) (γ:Gh) (w:World) (args:List Value):Prop where
 rel:Rel X (entry g acs vin).lk γ w
 top:∀ b,w.heap.size<=b->γ.O b=none
 args:RelAs (entry g acs vin).lk γ (entA g.am 0 acs).1 args
def NewR (X:Ctx) (O:OM) (w:World) (md:Nat) (τ:Ty) (xs:List (El τ)) (v:Value) (ks:List Nat):Prop :=
 (xs=[]/\v= .slice none 0 0/\ks=[])\/∃ key cs,ks=[key]/\RowR X O w key ⟨τ,xs,md⟩ v cs
def RelRc (X:Ctx) (e0:Lk) (γ0:Gh) (K:List Nat) (O:OM) (w:World) (md:Nat):Rc->Value->List Nat->Prop
 | .c (.l τ xs),v,ks=>(hdK md=true\/ks=[])/\NewR X O w md τ xs v ks
 | .c .u,v,ks=>ks=[]/\v.oneCell'=true
 | .c ct,v,ks=>ks=[]/\v=ctVal ct
 | .m ct,v,ks=>ks=[]/\v.oneCell'=true/\CtV (fun g=>∃ r,r∉K/\Fam r (O g)) w ct v
 | .al p j e c,v,ks=>ks=[]/\∃ row τ ys,j<64/\100000+p*64+j<200000/\e0.r (100000+p*64+j)=some row/\e<row.xs.length/\(row.cs e)[c]? =some (.l τ ys)/\(γ0.cv (100000+p*64+j))[e*sz row.τ+c]? =some v
 | .aw p j,v,ks=>ks=[]/\∃ row,j<64/\100000+p*64+j<200000/\e0.r (100000+p*64+j)=some row/\v=γ0.rv (100000+p*64+j)
 | .un,v,ks=>ks=[]/\v.oneCell'=true
inductive RelRcs (X:Ctx) (e0:Lk) (γ0:Gh) (K:List Nat) (O:OM) (w:World):List Nat->List Rc->List Value->List Nat->Prop
 | nil {ms:List Nat}:RelRcs X e0 γ0 K O w ms [] [] []
 | cons {ms:List Nat} {y:Rc} {v:Value} {k:List Nat} {ys:List Rc} {vs:List Value} {ks:List Nat}:RelRc X e0 γ0 K O w (hd ms) y v k->RelRcs X e0 γ0 K O w (tl ms) ys vs ks ->
   RelRcs X e0 γ0 K O w ms (y::ys) (v::vs) (k++ks)
inductive RelRts (X:Ctx) (e0:Lk) (γ0:Gh) (K:List Nat) (O:OM) (w:World):List (List Nat)->List (Bool×List Rc)->List Value->List Nat->Prop
 | nil {ms:List (List Nat)}:RelRts X e0 γ0 K O w ms [] [] []
 | cons {ms:List (List Nat)} {b:Bool} {l:List Rc} {us:List Value} {v:Value} {k:List Nat} {ys:List (Bool×List Rc)} {vs:List Value} {ks:List Nat}:RelRcs X e0 γ0 K O w (hdL ms) l us k ->
   (b=true->v= .agg us.toArray)->(b=false->us=[v])->RelRts X e0 γ0 K O w (tl ms) ys vs ks->RelRts X e0 γ0 K O w ms ((b,l)::ys) (v::vs) (k++ks)
def RelRes (X:Ctx) (e0:Lk) (γ0:Gh) (K:List Nat) (O:OM) (w:World) (rl:List (List Nat)):RC->Value->List Nat->Prop
 | .u,v,ks=>ks=[]/\v= .tuple #[]
 | .c x,v,ks=>RelRc X e0 γ0 K O w (hd (hdL rl)) x v ks
 | .a l,v,ks=>∃ us,v= .agg us.toArray/\RelRcs X e0 γ0 K O w (hdL rl) l us ks
 | .t l,v,ks=>∃ us,v= .tuple us.toArray/\RelRts X e0 γ0 K O w rl l us ks
 | .np l,v,ks=>∃ cv g cur e,1000<=cv/\v= .pointer (some ⟨g,0,none⟩)/\O g=some (.v cv)/\w.heap[g]? =some (.cells cur e (0,0))/\RelRcs X e0 γ0 K O w (hdL rl) l cur.toList ks
def RelVc (X:Ctx) (γ0:Gh) (O:OM) (w:World) (key md:Nat) (y:Ct) (v:Value) (ks:List Nat):Prop:=match md with
 | 0=>ks=[]/\v=ctVal y/\(match y with | .u=>False | .l _ _=>False | _=>True)
 | 1=>ks=[]/\v=γ0.rv key
 | md=>match y with | .l τ xs=>hdK md=true/\NewR X O w md τ xs v ks | _=>False
inductive RelVcs (X:Ctx) (γ0:Gh) (O:OM) (w:World):Nat->List Nat->List Ct->List Value->List Nat->Prop
 | nil {k:Nat} {ms:List Nat}:RelVcs X γ0 O w k ms [] [] []
 | cons {k:Nat} {ms:List Nat} {y:Ct} {v:Value} {a:List Nat} {ys:List Ct} {vs:List Value} {ks:List Nat}:RelVc X γ0 O w k (hd ms) y v a->RelVcs X γ0 O w (k+1) (tl ms) ys vs ks ->
   RelVcs X γ0 O w k ms (y::ys) (v::vs) (a++ks)
inductive RelVo (X:Ctx) (γ0:Gh) (O:OM) (w:World):Nat->List (List Nat)->List (List Ct)->List Nat->Prop
 | nil {k:Nat} {ms:List (List Nat)}:RelVo X γ0 O w k ms [] []
 | cons {k:Nat} {ms:List (List Nat)} {l:List Ct} {a:List Nat} {vo:List (List Ct)} {ks:List Nat} {cur:Array Value} {e:TypeId}:O (γ0.vb k)=some (.v k)->w.heap[γ0.vb k]? =some (.cells cur e (0,0)) ->
   RelVcs X γ0 O w (300000+k*64) (hdL ms) l cur.toList a->RelVo X γ0 O w (k+1) (tl ms) vo ks->RelVo X γ0 O w k ms (l::vo) (a++ks)
inductive RelIo (X:Ctx) (γ0:Gh) (O:OM) (w:World):Nat->List AC->List Ct->List Nat->Prop
 | nil {p:Nat}:RelIo X γ0 O w p [] [] []
 | io {p:Nat} {τ:Ty} {xs xs':List (El τ)} {cs:List Value} {l:List AC} {ys:List Ct} {ks:List Nat}:RowR X O w (200000+p*64) ⟨τ,xs',5⟩ (γ0.rv (200000+p*64)) cs->RelIo X γ0 O w (p+1) l ys ks ->
   RelIo X γ0 O w p (.io τ xs::l) (.l τ xs'::ys) ((200000+p*64)::ks)
 | skip {p:Nat} {x:AC} {l:List AC} {ys:List Ct} {ks:List Nat}:(∀ τ xs,x≠ .io τ xs)->RelIo X γ0 O w (p+1) l ys ks->RelIo X γ0 O w p (x::l) ys ks
def Post (X:Ctx) (g:Sig) (acs:List AC) (vin:List (List Ct)) (γ0:Gh) (w0:World) (cr:CR) (v:Value) (w:World):Prop :=
 ∃ O ka kb kc,Fr γ0.O w0 O w/\(ka++(kb++kc)).Nodup/\RelRes X (entry g acs vin).lk γ0 (ka++(kb++kc)) O w g.rl cr.res v ka/\RelVo X γ0 O w 0 g.vl cr.vo kb/\RelIo X γ0 O w 0 acs cr.io kc
def Uni {α R:Type} (T:(α->Option R)->Option R):Prop:=∃ o:Option α,∀ k,T k=o.bind k
structure FnOk {R:Type} (X:Ctx) (g:Sig) (f:FuncId) (F:FunR R):Prop where
 uni:∀ acs vin,Uni (F acs vin)
 ok:∀ (acs:List AC) (vin:List (List Ct)) (cr:CR),(∀ k,F acs vin k=k cr)->∀ (γ:Gh) (w:World) (args:List Value),Pre X g acs vin γ w args ->
  Calls X.P f args.toArray w fun e w'=>∃ v,e= .returned v/\Post X g acs vin γ w cr v w'
def Enters (P:Program) (f:FuncId):Prop:=∃ fn,P.funcs[f]? =some fn/\(fn.name == "runtime.NumGoroutine")=false/\fn.body.isNone=false
structure EnvOk {R:Type} (X:Ctx) (E:Env R):Prop where
 fn:∀ f g,E.sg f=some g->FnOk X g f (E.fn f)/\Enters X.P f
 uni:∀ f acs vin,Uni (E.fn f acs vin)
def md (ms:List Nat) (i:Nat):Nat:=hd (ms.drop i)
def mdL {α:Type} (ms:List (List α)) (i:Nat):List α:=hdL (ms.drop i)
theorem tl_drop {α:Type} (l:List α) (i:Nat):(tl l).drop i=l.drop (i+1):=by cases l<;>simp [tl]
theorem md_tl (l:List Nat) (i:Nat):md (tl l) i=md l (i+1):=by simp only [md,tl_drop]
theorem mdL_tl {α:Type} (l:List (List α)) (i:Nat):mdL (tl l) i=mdL l (i+1):=by simp only [mdL,tl_drop]
theorem md_zero (l:List Nat):md l 0=hd l:=rfl
theorem mdL_zero {α:Type} (l:List (List α)):mdL l 0=hdL l:=rfl
def entCell (key:Nat):Ct->Cv
 | .u=> .un | .b x=> .b x | .i a n=> .i a n | .s x=> .s x | .l _ _=> .sw key
theorem entC_get (k w:Nat):∀ (ys:List Ct) (ms:List Nat) (j i:Nat),((entC k w ms j ys).1)[i]? =(ys[i]?).map (entCell (k+j+i))
 | [],ms,j,i=>by simp [entC]
 | y::ys,ms,j,i=>by
  have ih:=entC_get k w ys (tl ms) (j+1)
  cases i with
  | zero=>cases y<;>simp [entC,entCell]
  | succ i =>
   have:=ih i
   cases y<;>simp [entC,this,show k+(j+1)+i=k+j+(i+1) by omega]
theorem entC_length (k w:Nat):∀ (ys:List Ct) (ms:List Nat) (j:Nat),((entC k w ms j ys).1).length=ys.length
 | [],ms,j=>by simp [entC]
 | y::ys,ms,j=>by have ih:=entC_length k w ys (tl ms) (j+1); cases y<;>simp [entC,ih]
theorem entC_mem (k w:Nat):∀ (ys:List Ct) (ms:List Nat) (j:Nat) (key:Nat) (row:Row),(key,row)∈(entC k w ms j ys).2 ↔
  ∃ i τ xs,ys[i]? =some (.l τ xs)/\key=k+j+i/\row=⟨τ,xs,kd w (md ms i)⟩
 | [],ms,j,key,row=>by simp [entC]
 | y::ys,ms,j,key,row=>by
  have ih:=entC_mem k w ys (tl ms) (j+1) key row
  have rest:(∃ i τ xs,ys[i]? =some (.l τ xs)/\key=k+(j+1)+i/\row=⟨τ,xs,kd w (md (tl ms) i)⟩) ↔
    ∃ i τ xs,(y::ys)[i+1]? =some (.l τ xs)/\key=k+j+(i+1)/\row=⟨τ,xs,kd w (md ms (i+1))⟩:=by
   simp only [md_tl,List.getElem?_cons_succ,show ∀ i,k+(j+1)+i=k+j+(i+1) by intro i; omega]
  have split:(∃ i τ xs,(y::ys)[i]? =some (.l τ xs)/\key=k+j+i/\row=⟨τ,xs,kd w (md ms i)⟩) ↔
    ((∃ τ xs,y= .l τ xs/\key=k+j/\row=⟨τ,xs,kd w (md ms 0)⟩) \/
    ∃ i τ xs,(y::ys)[i+1]? =some (.l τ xs)/\key=k+j+(i+1)/\row=⟨τ,xs,kd w (md ms (i+1))⟩):=by
   constructor
   ·rintro ⟨i,τ,xs,h1,h2,h3⟩
    cases i with
    | zero=>exact .inl ⟨τ,xs,by simpa using h1,h2,h3⟩
    | succ i=>exact .inr ⟨i,τ,xs,h1,h2,h3⟩
   ·rintro (⟨τ,xs,h1,h2,h3⟩ | ⟨i,τ,xs,h1,h2,h3⟩)
    ·exact ⟨0,τ,xs,by simp [h1],h2,h3⟩
    ·exact ⟨i+1,τ,xs,h1,h2,h3⟩
  rw [split,← rest,← ih]
  cases y with
  | l τ xs =>
   simp only [entC,List.mem_cons,Prod.mk.injEq]
   constructor
   ·rintro (⟨h1,h2⟩ | h)
    ·refine .inl ⟨τ,xs,rfl,h1,?_⟩
     rw [h2]; simp [md_zero]
    ·exact .inr h
   ·rintro (⟨τ',xs',h1,h2,h3⟩ | h)
    ·cases h1
     refine .inl ⟨h2,?_⟩
     rw [h3]; simp [md_zero]
    ·exact .inr h
  | _=>simp [entC]
def acl:AC->List Ct
 | .c y=>[y] | .a ys=>ys | _=>[]
def entAV (m P:Nat):AC->AV
 | .c y=> .c (entCell (100000+P*64) y)
 | .a ys=> .a (entC (100000+P*64) (kd 0 m) [] 0 ys).1
 | .p k=> .c (.pv k 0)
 | .f g ks=> .c (.fn g ks)
 | .al k c=> .c (.sw (300000+k*64+c))
 | .io _ _=> .c (.sw (200000+P*64))
def AMem (m P:Nat) (x:AC) (key:Nat) (row:Row):Prop :=
 (∃ j τ xs,(acl x)[j]? =some (.l τ xs)/\key=100000+P*64+j/\row=⟨τ,xs,kd 0 m⟩)\/∃ τ xs,x= .io τ xs/\key=200000+P*64/\row=⟨τ,xs,5⟩
theorem kd_kd (m n:Nat):kd (kd 0 m) n=kd 0 m:=by cases m<;>rfl
theorem entA_cons (am:List Nat) (p:Nat) (x:AC) (l:List AC):entA am p (x::l)=(entAV (hd am) p x::(entA (tl am) (p+1) l).1,
  (match x with
   | .c y=>(entC (100000+p*64) (kd 0 (hd am)) [] 0 [y]).2
   | .a ys=>(entC (100000+p*64) (kd 0 (hd am)) [] 0 ys).2
   | .io τ xs=>[(200000+p*64,⟨τ,xs,5⟩)]
   | _=>[])++(entA (tl am) (p+1) l).2):=by
 cases x with
 | c y =>
  simp only [entA]
  cases y<;>simp [entC,entAV,entCell]
 | a ys=>simp only [entA,entAV]
 | _=>simp [entA,entAV]
theorem entA_get:∀ (acs:List AC) (am:List Nat) (p i:Nat),((entA am p acs).1)[i]? =(acs[i]?).map (entAV (md am i) (p+i))
 | [],am,p,i=>by simp [entA]
 | x::l,am,p,i=>by
  rw [entA_cons]
  cases i with
  | zero=>simp [md_zero]
  | succ i=>simp [entA_get l (tl am) (p+1) i,md_tl,show p+1+i=p+(i+1) by omega]
theorem entA_mem:∀ (acs:List AC) (am:List Nat) (p:Nat) (key:Nat) (row:Row),(key,row)∈(entA am p acs).2↔∃ i x,acs[i]? =some x/\AMem (md am i) (p+i) x key row
 | [],am,p,key,row=>by simp [entA]
 | x::l,am,p,key,row=>by
  have ih:=entA_mem l (tl am) (p+1) key row
  have rest:(∃ i x,l[i]? =some x/\AMem (md (tl am) i) (p+1+i) x key row)↔∃ i y,(x::l)[i+1]? =some y/\AMem (md am (i+1)) (p+(i+1)) y key row:=by
   simp only [md_tl,List.getElem?_cons_succ,show ∀ i,p+1+i=p+(i+1) by intro i; omega]
  have split:(∃ i y,(x::l)[i]? =some y/\AMem (md am i) (p+i) y key row)↔AMem (hd am) p x key row\/∃ i y,(x::l)[i+1]? =some y/\AMem (md am (i+1)) (p+(i+1)) y key row:=by
   constructor
   ·rintro ⟨i,y,h1,h2⟩
    cases i with
    | zero=>simp only [List.getElem?_cons_zero,Option.some.injEq] at h1; subst h1; exact .inl h2
    | succ i=>exact .inr ⟨i,y,h1,h2⟩
   ·rintro (h | ⟨i,y,h1,h2⟩)
    ·exact ⟨0,x,rfl,h⟩
    ·exact ⟨i+1,y,h1,h2⟩
  rw [split,← rest,← ih,entA_cons]
  simp only [List.mem_append]
  refine or_congr ?_ Iff.rfl
  cases x with
  | c y=>simp only [entC_mem,kd_kd,AMem,acl]; simp
  | a ys=>simp only [entC_mem,kd_kd,AMem,acl]; simp
  | io τ xs =>
   simp only [AMem,acl,List.mem_singleton,Prod.mk.injEq]
   constructor
   ·rintro ⟨h1,h2⟩; exact .inr ⟨τ,xs,rfl,h1,h2⟩
   ·rintro (⟨j,_,_,h,_⟩ | ⟨_,_,h0,h1,h2⟩)
    ·simp at h
    ·cases h0; exact ⟨h1,h2⟩
  | _=>simp [AMem,acl]
theorem entV_cons (k:Nat) (ms:List (List Nat)) (l:List Ct) (vin:List (List Ct)):entV k ms (l::vin) =
  ((k,(entC (300000+k*64) 0 (hdL ms) 0 l).1)::(entV (k+1) (tl ms) vin).1,(entC (300000+k*64) 0 (hdL ms) 0 l).2++(entV (k+1) (tl ms) vin).2):=rfl
theorem entV_mem:∀ (vin:List (List Ct)) (vl:List (List Nat)) (k:Nat) (key:Nat) (row:Row),(key,row)∈(entV k vl vin).2 ↔
  ∃ i l j τ xs,vin[i]? =some l/\l[j]? =some (.l τ xs)/\key=300000+(k+i)*64+j/\row=⟨τ,xs,kd 0 (md (mdL vl i) j)⟩
 | [],vl,k,key,row=>by simp [entV]
 | x::vin,vl,k,key,row=>by
  have ih:=entV_mem vin (tl vl) (k+1) key row
  rw [entV_cons,List.mem_append,ih,entC_mem]
  constructor
  ·rintro (⟨j,τ,xs,h1,h2,h3⟩ | ⟨i,l,j,τ,xs,h1,h2,h3,h4⟩)
   ·exact ⟨0,x,j,τ,xs,rfl,h1,by omega,h3⟩
   ·exact ⟨i+1,l,j,τ,xs,by simpa using h1,h2,by omega,by rw [h4,mdL_tl]⟩
  ·rintro ⟨i,l,j,τ,xs,h1,h2,h3,h4⟩
   cases i with
   | zero=>simp only [List.getElem?_cons_zero,Option.some.injEq] at h1; subst h1; exact .inl ⟨j,τ,xs,h2,by omega,h4⟩
   | succ i=>exact .inr ⟨i,l,j,τ,xs,by simpa using h1,h2,by omega,by rw [h4,mdL_tl]⟩
theorem entV_v:∀ (vin:List (List Ct)) (vl:List (List Nat)) (k n:Nat),lk (entV k vl vin).1 n=if n<k then none else (vin[n-k]?).map fun l=>(entC (300000+n*64) 0 (mdL vl (n-k)) 0 l).1
 | [],vl,k,n=>by simp [entV,lk]
 | x::vin,vl,k,n=>by
  rw [entV_cons]
  simp only [lk,entV_v vin (tl vl) (k+1) n]
  cases h:Nat.beq k n with
  | true=>have:=nat_beq h; subst this; simp [mdL_zero]
  | false =>
   have hne:k≠n:=by rintro rfl; rw [Nat.beq_refl] at h; cases h
   simp only
   by_cases h1:n<k
   ·rw [if_pos h1,if_pos (by omega)]
   ·rw [if_neg h1,if_neg (by omega)]
    obtain ⟨d,rfl⟩:∃ d,n=k+1+d:=⟨n-k-1,by omega⟩
    simp [mdL_tl,show k+1+d-k=d+1 by omega,show k+1+d-(k+1)=d by omega]
theorem entry_v (g:Sig) (acs:List AC) (vin:List (List Ct)) (k:Nat):(entry g acs vin).lk.v k=(vin[k]?).map fun l=>(entC (300000+k*64) 0 (mdL g.vl k) 0 l).1:=by
 show lk (entV 0 g.vl vin).1 k=_
 rw [entV_v]; simp
theorem entry_rs (g:Sig) (acs:List AC) (vin:List (List Ct)):(entry g acs vin).rs=(entA g.am 0 acs).2++(entV 0 g.vl vin).2:=rfl
theorem entry_r {g:Sig} {acs:List AC} {vin:List (List Ct)} {key:Nat} {row:Row} (h:(entry g acs vin).lk.r key=some row) :
  (∃ p x,acs[p]? =some x/\AMem (md g.am p) p x key row)\/∃ i l j τ xs,vin[i]? =some l/\l[j]? =some (.l τ xs)/\key=300000+i*64+j/\row=⟨τ,xs,kd 0 (md (mdL g.vl i) j)⟩:=by
 have h:lk (entry g acs vin).rs key=some row:=h
 have:=lk_mem h
 rw [entry_rs,List.mem_append,entA_mem,entV_mem] at this
 simpa using this
theorem lk_some_of_mem {α:Type} {l:List (Nat×α)} {k:Nat} {v:α} (h:(k,v)∈l):∃ u,lk l k=some u:=by
 cases hl:lk l k with
 | some u=>exact ⟨u,rfl⟩
 | none=>exact absurd (mem_keys h) (lk_none.1 hl)
theorem entry_has {g:Sig} {acs:List AC} {vin:List (List Ct)} {key:Nat} {row:Row} (h:(∃ p x,acs[p]? =some x/\AMem (md g.am p) p x key row)\/∃ i l j τ xs,vin[i]? =some l/\l[j]? =some (.l τ xs)/\key=300000+i*64+j/\row=⟨τ,xs,kd 0 (md (mdL g.vl i) j)⟩) :
  ∃ u,(entry g acs vin).lk.r key=some u:=by
 have:(key,row)∈(entry g acs vin).rs:=by
  rw [entry_rs,List.mem_append,entA_mem,entV_mem]
  simpa using h
 exact lk_some_of_mem this
def hCs (key d:Nat):Nat->List Cv->List (Nat×(Nat×Nat))
 | _,[]=>[]
 | j,.sw r::l=>(r,(key+j,d))::hCs key d (j+1) l
 | j,_::l=>hCs key d (j+1) l
def is45 (n:Nat):Bool:=match n with | 4=>true | 5=>true | _=>false
def is9 (n:Nat):Bool:=match n with | 9=>true | _=>false
def avl:AV->List Cv
 | .c x=>[x] | .a cs=>cs | _=>[]
def hGone:List Nat->Nat->List AV->List (Nat×(Nat×Nat))
 | _,_,[]=>[]
 | am,P,v::l=>(match is45 (hd am) with | true=>hCs (100000+P*64) (hd am) 0 (avl v) | false=>[])++hGone (tl am) (P+1) l
def hIo:List Nat->Nat->List AV->List (Nat×(Nat×Nat))
 | _,_,[]=>[]
 | am,P,v::l=>(match is9 (hd am) with | true=>hCs (200000+P*64) 5 0 (avl v) | false=>[])++hIo (tl am) (P+1) l
def hVc (key:Nat):List Nat->Nat->List Cv->List (Nat×(Nat×Nat))
 | _,_,[]=>[]
 | ms,j,c::l=>(match hd ms with | 0=>[] | 1=>[] | w=>(match c with | .sw r=>[(r,(key+j,w))] | _=>[]))++hVc key (tl ms) (j+1) l
def hVars (m:Lk):Nat->List (List Nat)->List Nat->List (Nat×(Nat×Nat))
 | _,_,[]=>[]
 | k,vl,v::l=>(match m.v v with | some cs=>hVc (300000+k*64) (hdL vl) 0 cs | none=>[])++hVars m (k+1) (tl vl) l
theorem is9_no {n:Nat} (h:n≠9):is9 n=false:=by
 unfold is9; split
 ·exact absurd rfl h
 ·rfl
theorem keys_append {α:Type} (a b:List (Nat×α)):keys (a++b)=keys a++keys b:=by simp [keys_eq]
theorem hCs_mem (key d:Nat):∀ (cs:List Cv) (j i r:Nat),cs[i]? =some (.sw r)->(r,(key+(j+i),d))∈hCs key d j cs
 | [],j,i,r,h=>by simp at h
 | c::cs,j,i,r,h=>by
  cases i with
  | zero=>simp only [List.getElem?_cons_zero,Option.some.injEq] at h; subst h; simp [hCs]
  | succ i =>
   have:=hCs_mem key d cs (j+1) i r (by simpa using h)
   rw [show j+1+i=j+(i+1) by omega] at this
   cases c<;>simp only [hCs]<;>first | exact List.mem_cons_of_mem _ this | exact this
def OwnC (m:Lk) (d:Nat) (c:Cv):Prop:=(∃ r row,c= .sw r/\m.r r=some row/\leK d row.ow=true)\/(∃ τ,c= .nl τ)\/(∃ b,c= .b b)\/(∃ k n,c= .i k n)\/∃ s,c= .s s
theorem owned_inv {d:Nat}:∀ {cs:List Cv} {g:List Nat},m.owned d cs=some g->(∀ key k j,keys (hCs key k j cs)=g)/\(∀ c∈cs,OwnC m d c/\∀ r,c= .sw r->r∈g)/\∀ r∈g,∃ row,m.r r=some row/\leK d row.ow=true
 | [],g,h=>by simp only [Lk.owned,Option.some.injEq] at h; subst h; simp [hCs,keys]
 | c::cs,g,h=>by
  have flat:m.owned d cs=some g->(∀ r,c≠ .sw r)->OwnC m d c->(∀ key k j,hCs key k j (c::cs)=hCs key k (j+1) cs) ->
    (∀ key k j,keys (hCs key k j (c::cs))=g)/\(∀ x∈c::cs,OwnC m d x/\∀ r,x= .sw r->r∈g)/\∀ r∈g,∃ row,m.r r=some row/\leK d row.ow=true:=fun h hne ho hh=>by
   obtain ⟨h1,h2,h3⟩:=owned_inv h
   refine ⟨fun key k j=>by rw [hh]; exact h1 _ _ _,fun x hx=> ?_,h3⟩
   rcases List.mem_cons.1 hx with rfl | hx
   ·exact ⟨ho,fun r e=>absurd e (hne r)⟩
   ·exact h2 x hx
  cases c with
  | sw r =>
   simp only [Lk.owned] at h
   cases hr:m.r r with
   | none=>simp [hr] at h
   | some row =>
    cases ho:m.owned d cs with
    | none=>simp [hr,ho] at h
    | some k =>
     cases hle:leK d row.ow with
     | false=>simp [hr,ho,hle] at h
     | true =>
      simp only [hr,ho,hle,Option.some.injEq] at h; subst h
      obtain ⟨h1,h2,h3⟩:=owned_inv ho
      refine ⟨fun key k' j=>by simp [hCs,keys,h1],fun x hx=> ?_,fun s hs=>(List.mem_cons.1 hs).elim (fun e=>e▸⟨row,hr,hle⟩) (h3 s)⟩
      rcases List.mem_cons.1 hx with rfl | hx
      ·exact ⟨.inl ⟨r,row,rfl,hr,hle⟩,fun s e=>by cases e; simp⟩
      ·exact ⟨(h2 x hx).1,fun s e=>List.mem_cons_of_mem _ ((h2 x hx).2 s e)⟩
  | nl τ=>exact flat (by simpa [Lk.owned] using h) (by simp) (.inr (.inl ⟨τ,rfl⟩)) (fun _ _ _=>rfl)
  | b x=>exact flat (by simpa [Lk.owned] using h) (by simp) (.inr (.inr (.inl ⟨x,rfl⟩))) (fun _ _ _=>rfl)
  | i k n=>exact flat (by simpa [Lk.owned] using h) (by simp) (.inr (.inr (.inr (.inl ⟨k,n,rfl⟩)))) (fun _ _ _=>rfl)
  | s x=>exact flat (by simpa [Lk.owned] using h) (by simp) (.inr (.inr (.inr (.inr ⟨x,rfl⟩)))) (fun _ _ _=>rfl)
  | _=>simp [Lk.owned] at h
def ByV (v:AV) (x:AC) (cs:List Cv) (ys:List Ct):Prop:=(v= .a cs/\x= .a ys)\/∃ c y,v= .c c/\x= .c y/\cs=[c]/\ys=[y]
def ValM (m:Lk) (G:Nat->Nat->Nat->Prop) (F B:Nat->Prop) (I:Prop) (d P:Nat) (cs:List Cv) (ys ys':List Ct):Prop :=
 (d=0/\ys'=ys/\(∀ c∈cs,∀ r,c.row=some r->B r)/\(I->m.immL cs=true))\/(d=7/\ys'=ys.map hideC) \/
 (hdK d=true/\ys'=ys/\(∀ c∈cs,OwnC m d c)/\(d=3->∀ c∈cs,∀ r,c= .sw r->F r)/\(d≠3->∀ j r,cs[j]? =some (.sw r)->G r (100000+P*64+j) d)/\(I->d=3))
inductive ArgR (m:Lk) (κ:List Nat) (G:Nat->Nat->Nat->Prop) (F B:Nat->Prop) (I:Prop) (d P:Nat):AV->AC->Prop
 | ptr {k i:Nat}:¬ I->κ[i]? =some k->ArgR m κ G F B I d P (.c (.pv k 0)) (.p i)
 | fn {f:Nat} {caps ks:List Nat}:¬ I->ks.length=caps.length->(∀ (i k:Nat),ks[i]? =some k->∃ v,caps[i]? =some v/\κ[k]? =some v)->ArgR m κ G F B I d P (.c (.fn f caps)) (.f f ks)
 | val {v:AV} {x:AC} {cs:List Cv} {ys ys':List Ct}:ByV v x cs ys'->cs.length<=63->m.cts cs=some ys->ValM m G F B I d P cs ys ys'->ArgR m κ G F B I d P v x
 | io {r:Nat} {τ:Ty} {xs:List (El τ)}:¬ I->d=9->m.r r=some ⟨τ,xs,5⟩->G r (200000+P*64) 5->ArgR m κ G F B I d P (.c (.sw r)) (.io τ xs)
 | al {r v c:Nat} {cs:List Cv}:¬ I->d=8->κ[0]? =some v->m.v v=some cs->cs[c]? =some (.sw r)->ArgR m κ G F B I d P (.c (.sw r)) (.al 0 c)
theorem ArgR.mono {κ κ':List Nat} {G G':Nat->Nat->Nat->Prop} {F F' B B':Nat->Prop} {I I':Prop} {d P:Nat} {v:AV} {x:AC} (h:ArgR m κ G F B I d P v x) (hκ:∀ (i k:Nat),κ[i]? =some k->κ'[i]? =some k)
  (hG:∀ r k d,G r k d->G' r k d) (hF:∀ r,F r->F' r) (hB:∀ r,B r->B' r) (hI:I'->I):ArgR m κ' G' F' B' I' d P v x:=by
 cases h with
 | ptr h0 h1=>exact .ptr (fun h=>h0 (hI h)) (hκ _ _ h1)
 | fn h0 h1 h2=>exact .fn (fun h=>h0 (hI h)) h1 fun i k hk=>let ⟨v,h3,h4⟩:=h2 i k hk; ⟨v,h3,hκ _ _ h4⟩
 | val h1 h2 h3 h4 =>
  refine .val h1 h2 h3 ?_
  rcases h4 with ⟨a,b,c,e⟩ | h | ⟨a,b,c,e,f,g⟩
  ·exact .inl ⟨a,b,fun x hx r hr=>hB r (c x hx r hr),fun h=>e (hI h)⟩
  ·exact .inr (.inl h)
  ·exact .inr (.inr ⟨a,b,c,fun h x hx r hr=>hF r (e h x hx r hr),fun h j r hr=>hG _ _ _ (f h j r hr),fun h=>g (hI h)⟩)
 | io h0 h1 h2 h3=>exact .io (fun h=>h0 (hI h)) h1 h2 (hG _ _ _ h3)
 | al h0 h8 h1 h2 h3=>exact .al (fun h=>h0 (hI h)) h8 (hκ _ _ h1) h2 h3
theorem idxO_get {v:Nat}:∀ {l:List Nat} {n k:Nat},idxO v n l=some k->n<=k/\l[k-n]? =some v
 | [],n,k,h=>by simp [idxO] at h
 | x::l,n,k,h=>by
  simp only [idxO] at h
  cases hx:Nat.beq x v with
  | true=>rw [hx] at h; cases h; have:=nat_beq hx; simp [this]
  | false =>
   rw [hx] at h
   obtain ⟨h1,h2⟩:=idxO_get h
   refine ⟨by omega,?_⟩
   rw [show k-n=(k-(n+1))+1 by omega]; simpa using h2
theorem idxO_none {v:Nat}:∀ {l:List Nat} {n:Nat},idxO v n l=none->v∉l
 | [],n,_=>by simp
 | x::l,n,h=>by
  simp only [idxO] at h
  cases hx:Nat.beq x v with
  | true=>rw [hx] at h; cases h
  | false =>
   rw [hx] at h
   simp only [List.mem_cons,not_or]
   exact ⟨(by rintro rfl; rw [Nat.beq_refl] at hx; cases hx),idxO_none h⟩
theorem addV_ok {κ:List Nat} {v k:Nat} {κ':List Nat} (h:addV κ v=(k,κ')):κ'[k]? =some v/\(∀ (i x:Nat),κ[i]? =some x->κ'[i]? =some x)/\(κ.Nodup->κ'.Nodup):=by
 simp only [addV] at h
 cases hi:idxO v 0 κ with
 | some j =>
  rw [hi] at h; cases h
  exact ⟨by simpa using (idxO_get hi).2,fun _ _ h=>h,id⟩
 | none =>
  rw [hi] at h; cases h
  refine ⟨by simp,fun i x hx=> ?_,fun hn=> ?_⟩
  ·have:=(List.getElem?_eq_some_iff.1 hx).1
   rw [List.getElem?_append_left this]; exact hx
  ·rw [List.nodup_append]
   refine ⟨hn,by simp,?_⟩
   intro a ha b hb
   simp at hb; subst hb
   rintro rfl; exact idxO_none hi ha
theorem addVs_ok:∀ {vs κ ks κ':List Nat},addVs κ vs=(ks,κ')->ks.length=vs.length/\(∀ (i k:Nat),ks[i]? =some k->∃ v,vs[i]? =some v/\κ'[k]? =some v)/\(∀ (i x:Nat),κ[i]? =some x->κ'[i]? =some x)/\(κ.Nodup->κ'.Nodup)
 | [],κ,ks,κ',h=>by simp only [addVs,Prod.mk.injEq] at h; obtain ⟨rfl,rfl⟩:=h; simp
 | v::vs,κ,ks,κ',h=>by
  simp only [addVs] at h
  cases h1:addV κ v with
  | mk k κ1 =>
   cases h2:addVs κ1 vs with
   | mk ks2 κ2 =>
    simp only [h1,h2,Prod.mk.injEq] at h
    obtain ⟨rfl,rfl⟩:=h
    obtain ⟨a1,a2,a3⟩:=addV_ok h1
    obtain ⟨b1,b2,b3,b4⟩:=addVs_ok h2
    refine ⟨by simp [b1],fun i k hk=> ?_,fun i x hx=>b3 _ _ (a2 _ _ hx),fun hn=>b4 (a3 hn)⟩
    cases i with
    | zero=>simp only [List.getElem?_cons_zero,Option.some.injEq] at hk; subst hk; exact ⟨v,rfl,b3 _ _ a1⟩
    | succ i=>simpa using b2 i k (by simpa using hk)
theorem findC_get {r:Nat}:∀ {cs:List Cv} {n c:Nat},findC r n cs=some c->n<=c/\cs[c-n]? =some (.sw r)
 | [],n,c,h=>by simp [findC] at h
 | x::cs,n,c,h=>by
  have rest:findC r (n+1) cs=some c->n<=c/\(x::cs)[c-n]? =some (.sw r):=fun h=>by
   obtain ⟨h1,h2⟩:=findC_get h
   refine ⟨by omega,?_⟩
   rw [show c-n=(c-(n+1))+1 by omega]; simpa using h2
  cases x with
  | sw s =>
   simp only [findC] at h
   cases hs:Nat.beq s r with
   | true=>rw [hs] at h; cases h; have:=nat_beq hs; simp [this]
   | false=>rw [hs] at h; exact rest h
  | _=>exact rest (by simpa [findC] using h)
theorem cts_one {x:Cv} {y:Ct} (h:m.ct x=some y):m.cts [x]=some [y]:=by simp [Lk.cts,h]
theorem hideC_fmap (l:List Ct):fmap hideC l=l.map hideC:=fmap_eq _ _
structure ArgsI (m:Lk) (am:List Nat) (P:Nat) (avs:List AV) (κ0:List Nat) (ar:AR):Prop where
 len:ar.acs.length=avs.length
 pre:∀ (i k:Nat),κ0[i]? =some k->ar.κ[i]? =some k
 nd:κ0.Nodup->ar.κ.Nodup
 gone:keys (hGone am P avs)=ar.gone
 io:keys (hIo am P avs)=ar.io
 arg:∀ i v,avs[i]? =some v->∃ x,ar.acs[i]? =some x/\ArgR m ar.κ (fun r k d=>(r,(k,d))∈hGone am P avs++hIo am P avs) (·∈ar.fz) (·∈ar.bor) (ar.imm=true) (md am i) (P+i) v x
 immb:ar.imm=true->∀ r∈ar.bor,∀ row,m.r r=some row->ownK row.ow=false
 immk:ar.imm=true->ar.κ=κ0
 fzr:∀ r∈ar.fz,∃ row,m.r r=some row/\leK 3 row.ow=true
theorem immL_own:∀ {cs:List Cv},m.immL cs=true->∀ r∈borL cs,∀ row,m.r r=some row->ownK row.ow=false
 | [],_,r,h=>by simp [borL] at h
 | x::cs,h,r,hr=>by
  simp only [Lk.immL] at h
  cases hx:m.immC x with
  | false=>rw [hx] at h; cases h
  | true =>
   rw [hx] at h
   simp only [borL] at hr
   cases hrow:x.row with
   | none=>rw [hrow] at hr; exact immL_own h r hr
   | some s =>
    rw [hrow] at hr
    rcases List.mem_cons.1 hr with rfl | hr
    ·intro row hm
     simp only [Lk.immC,hrow,hm] at hx
     revert hx; split<;>simp_all [ownK]
    ·exact immL_own h r hr
theorem args_inv:∀ (avs:List AV) (am:List Nat) (κ0:List Nat) (P:Nat) (ar:AR),m.args am avs κ0=some ar->ArgsI m am P avs κ0 ar
 | [],am,κ0,P,ar,h=>by
  simp only [Lk.args,Option.some.injEq] at h; subst h
  exact ⟨rfl,fun _ _ h=>h,id,rfl,rfl,fun i v h=>by simp at h,fun _ r h=>by simp at h,fun _=>rfl,fun r h=>by simp at h⟩
 | v::l,am,κ0,P,ar,h=>by
  have cons:∀ (κ1:List Nat) (x:AC) (g io fz bor:List Nat) (b:Bool),consA x g io fz bor b (m.args (tl am) l κ1)=some ar->(∀ (i k:Nat),κ0[i]? =some k->κ1[i]? =some k)->(κ0.Nodup->κ1.Nodup) ->
    keys (match is45 (hd am) with | true=>hCs (100000+P*64) (hd am) 0 (avl v) | false=>[])=g->keys (match is9 (hd am) with | true=>hCs (200000+P*64) 5 0 (avl v) | false=>[])=io ->
    ArgR m κ1 (fun r k d=>(r,(k,d))∈(match is45 (hd am) with | true=>hCs (100000+P*64) (hd am) 0 (avl v) | false=>[])++(match is9 (hd am) with | true=>hCs (200000+P*64) 5 0 (avl v) | false=>[])) (·∈fz) (·∈bor) (b=true) (hd am) P v x ->
    (b=true->(∀ r∈bor,∀ row,m.r r=some row->ownK row.ow=false)/\κ1=κ0)->(∀ r∈fz,∃ row,m.r r=some row/\leK 3 row.ow=true)->ArgsI m am P (v::l) κ0 ar:=by
   intro κ1 x g io fz bor b hc h1 h2 h3 h4 h5 h6 h7
   cases hq:m.args (tl am) l κ1 with
   | none=>simp [hq,consA] at hc
   | some q =>
    simp only [hq,consA,Option.some.injEq] at hc; subst hc
    have ih:=args_inv l (tl am) κ1 (P+1) q hq
    refine ⟨by simp [ih.len],fun i k hk=>ih.pre _ _ (h1 _ _ hk),fun hn=>ih.nd (h2 hn),?_,?_,fun i u hu=> ?_,fun hi r hr row hm=> ?_,fun hi=> ?_,fun r hr=>(List.mem_append.1 hr).elim (h7 r) (ih.fzr r)⟩
    ·simp only [hGone,keys_append,h3,ih.gone]
    ·simp only [hIo,keys_append,h4,ih.io]
    ·cases i with
     | zero =>
      simp only [List.getElem?_cons_zero,Option.some.injEq] at hu; subst hu
      refine ⟨x,rfl,h5.mono ih.pre (fun r k d hg=> ?_) (fun r hr=>List.mem_append_left _ hr) (fun r hr=>List.mem_append_left _ hr) (fun h=>by cases b<;>simp_all)⟩
      simp only [hGone,hIo,List.mem_append] at hg ⊢
      rcases hg with hg | hg
      ·exact .inl (.inl hg)
      ·exact .inr (.inl hg)
     | succ i =>
      obtain ⟨y,hy,hr⟩:=ih.arg i u (by simpa using hu)
      refine ⟨y,by simpa using hy,?_⟩
      rw [← md_tl,show P+(i+1)=P+1+i by omega]
      refine hr.mono (fun _ _ h=>h) (fun r k d hg=> ?_) (fun r hr=>List.mem_append_right _ hr) (fun r hr=>List.mem_append_right _ hr) (fun h=>by cases b<;>simp_all)
      simp only [hGone,hIo,List.mem_append] at hg ⊢
      rcases hg with hg | hg
      ·exact .inl (.inr hg)
      ·exact .inr (.inr hg)
    ·have hb:b=true/\q.imm=true:=by cases b<;>simp_all
     rcases List.mem_append.1 hr with hr | hr
     ·exact (h6 hb.1).1 r hr row hm
     ·exact ih.immb hb.2 r hr row hm
    ·have hb:b=true/\q.imm=true:=by cases b<;>simp_all
     exact (ih.immk hb.2).trans (h6 hb.1).2
  have byv:∀ (cs:List Cv) (ys:List Ct) (x:AC),avl v=cs->cs.length<=63->m.cts cs=some ys->(∀ ys',(ys'=ys/\ByV v x cs ys')\/(ys'=ys.map hideC/\ByV v (hideA x) cs ys')\/True)->ByV v x cs ys->ByV v (hideA x) cs (ys.map hideC)->is9 (hd am)=false ->
    m.argL (hd am) cs x (m.args (tl am) l κ0)=some ar->ArgsI m am P (v::l) κ0 ar:=by
   intro cs ys x havl hlen hcts _ hv1 hv2 h9 h
   simp only [Lk.argL] at h
   revert h; split
   ·rename_i h0
    intro h
    refine cons κ0 x [] [] [] (borL cs) (m.immL cs) h (fun _ _ h=>h) id (by rw [h0]; rfl) (by rw [h0]; rfl) (.val hv1 hlen hcts (.inl ⟨h0,rfl,fun c hc r hr=> ?_,id⟩)) (fun h=>⟨immL_own h,rfl⟩) (by simp)
    have:∀ (l:List Cv),c∈l->r∈borL l:=by
     intro l
     induction l with
     | nil=>simp
     | cons a l ih =>
      intro hm
      simp only [borL]
      rcases List.mem_cons.1 hm with rfl | hm
      ·rw [hr]; simp
      ·cases a.row with
       | some s=>exact List.mem_cons_of_mem _ (ih hm)
       | none=>exact ih hm
    exact this cs hc
   ·rename_i h0
    intro h
    exact cons κ0 (hideA x) [] [] [] [] true h (fun _ _ h=>h) id (by rw [h0]; rfl) (by rw [h0]; rfl) (.val hv2 hlen hcts (.inr (.inl ⟨h0,rfl⟩))) (fun _=>⟨by simp,rfl⟩) (by simp)
   ·rename_i h0 h7
    cases hk:hdK (hd am) with
    | false=>simp [hk]
    | true =>
     cases ho:m.owned (hd am) cs with
     | none=>simp [hk,ho]
     | some g =>
      simp only [hk,ho]
      obtain ⟨o1,o2,o3⟩:=owned_inv ho
      have hd345:hd am=3\/hd am=4\/hd am=5:=by revert hk; simp only [hdK]; split<;>simp_all
      split
      ·rename_i h3
       intro h
       refine cons κ0 x [] [] g [] true h (fun _ _ h=>h) id (by rw [h3]; rfl) (by rw [h3]; rfl) (.val hv1 hlen hcts (.inr (.inr ⟨hk,rfl,fun c hc=>(o2 c hc).1,fun _ c hc r hr=>(o2 c hc).2 r hr,fun h=>absurd h3 h,fun _=>h3⟩))) (fun _=>⟨by simp,rfl⟩) (fun r hr=>by have:=o3 r hr; rwa [h3] at this)
      ·rename_i h3
       intro h
       have h45:is45 (hd am)=true:=by rcases hd345 with h | h | h<;>rw [h] at h3 ⊢<;>first | rfl | exact absurd rfl h3
       refine cons κ0 x g [] [] [] false h (fun _ _ h=>h) id (by simp only [h45,havl]; exact o1 _ _ _) (by simp only [h9]; rfl) (.val hv1 hlen hcts (.inr (.inr ⟨hk,rfl,fun c hc=>(o2 c hc).1,fun h=>absurd h h3,fun _ j r hr=> ?_,fun h=>by cases h⟩))) (fun h=>by cases h) (by simp)
       simp only [h45,havl,List.mem_append]
       left
       have:=hCs_mem (100000+P*64) (hd am) cs 0 j r hr
       rwa [Nat.zero_add] at this
  have none1:∀ (x:Cv),(∀ r,x≠ .sw r)->keys (match is45 (hd am) with | true=>hCs (100000+P*64) (hd am) 0 [x] | false=>[])=[]/\keys (match is9 (hd am) with | true=>hCs (200000+P*64) 5 0 [x] | false=>[])=[]:=by
   intro x hx
   have:∀ key d,hCs key d 0 [x]=[]:=by intro key d; cases x<;>first | rfl | exact absurd rfl (hx _)
   constructor<;>split<;>simp [this,keys]
  have cell:∀ x,v= .c x->(∀ k,x≠ .pv k 0)->(∀ f caps,x≠ .fn f caps)->ArgsI m am P (v::l) κ0 ar:=by
   rintro x rfl hpv hfn
   have h:m.arg1 (hd am) x κ0 (m.args (tl am) l κ0)=some ar:=by
    revert h; cases x<;>first | exact absurd rfl (hfn _ _) | (simp only [Lk.args]; exact id) | skip
   simp only [Lk.arg1,Lk.arg9,Lk.arg8] at h
   revert h; split
   ·rename_i h9
    split
    ·rename_i r
     cases hr:m.r r with
     | none=>simp
     | some row =>
      obtain ⟨τ,xs,ow⟩:=row
      cases h5:Nat.beq ow 5 with
      | false=>simp [h5]
      | true =>
       simp only [h5]
       intro h
       have:=nat_beq h5; subst this
       refine cons κ0 _ [] [r] [] [] false h (fun _ _ h=>h) id (by rw [h9]; rfl) (by rw [h9]; rfl) (.io (by simp) h9 hr ?_) (fun h=>by cases h) (by simp)
       rw [h9]; simp [is45,is9,hCs,avl]
    ·simp
   ·rename_i h8
    split
    ·rename_i r v κ'
     cases hv:m.v v with
     | none=>simp
     | some cs =>
      cases hf:findC r 0 cs with
      | none=>simp [hf]
      | some c =>
       simp only [hf]
       intro h
       have:=(findC_get hf).2
       refine cons _ _ [] [] [] [] false h (fun _ _ h=>h) id (by rw [h8]; rfl) (by rw [h8]; rfl) (.al (by simp) h8 (v:=v) rfl hv (by simpa using this)) (fun h=>by cases h) (by simp)
    ·simp
   ·rename_i h9 h8
    cases hct:m.ct x with
    | none=>simp
    | some y =>
     simp only
     intro h
     have h9':is9 (hd am)=false:=is9_no h9
     exact byv [x] [y] (.c y) rfl (by simp) (cts_one hct) (fun _=> .inr (.inr trivial)) (.inr ⟨x,y,rfl,rfl,rfl,rfl⟩) (.inr ⟨x,hideC y,rfl,rfl,rfl,rfl⟩) h9' h
  cases v with
  | c x =>
   cases x with
   | pv k c =>
    cases c with
    | zero =>
     simp only [Lk.args] at h
     cases ha:addV κ0 k with
     | mk i κ1 =>
      simp only [ha] at h
      obtain ⟨a1,a2,a3⟩:=addV_ok ha
      obtain ⟨n1,n2⟩:=none1 (.pv k 0) (by simp)
      exact cons κ1 _ [] [] [] [] false h a2 a3 n1 n2 (.ptr (by simp) a1) (fun h=>by cases h) (by simp)
    | succ c=>exact cell _ rfl (by simp) (by simp)
   | fn f caps =>
    simp only [Lk.args] at h
    cases ha:addVs κ0 caps with
    | mk ks κ1 =>
     simp only [ha] at h
     obtain ⟨a1,a2,a3,a4⟩:=addVs_ok ha
     obtain ⟨n1,n2⟩:=none1 (.fn f caps) (by simp)
     exact cons κ1 _ [] [] [] [] false h a3 a4 n1 n2 (.fn (by simp) a1 a2) (fun h=>by cases h) (by simp)
   | _=>exact cell _ rfl (by simp) (by simp)
  | a cs =>
   simp only [Lk.args] at h
   cases hb:Nat.ble cs.length 63 with
   | false=>simp [hb] at h
   | true =>
    cases hc:m.cts cs with
    | none=>simp [hb,hc] at h
    | some ys =>
     simp only [hb,hc] at h
     by_cases h9:hd am=9
     ·rw [h9] at h; simp [Lk.argL,hdK] at h
     ·have h9':is9 (hd am)=false:=is9_no h9
      exact byv cs ys (.a ys) rfl (Nat.le_of_ble_eq_true hb) hc (fun _=> .inr (.inr trivial)) (.inl ⟨rfl,rfl⟩) (.inl ⟨rfl,by simp [hideA,hideC_fmap]⟩) h9' h
  | _=>simp [Lk.args] at h
theorem disjN_iff {a b:List Nat}:disjN a b=true↔∀ x∈a,x∉b:=by
 induction a with
 | nil=>simp [disjN]
 | cons x a ih =>
  simp only [disjN]
  cases h:hasN x b with
  | true=>simp; exact fun h2=>absurd (hasN_iff.1 h) h2
  | false =>
   have:x∉b:=fun h2=>by rw [hasN_iff.2 h2] at h; cases h
   simp [ih,this]
def OwnV (m:Lk) (B:Nat->Prop) (G:Nat->Nat->Nat->Prop) (key d:Nat) (c:Cv):Prop :=
 ((d=0\/d=1)/\∀ r,c.row=some r->B r)\/(hdK d=true/\((∃ r row,c= .sw r/\m.r r=some row/\leK d row.ow=true/\notIo r=true/\G r key d)\/∃ τ,c= .nl τ))
theorem ownRows_inv (key:Nat):∀ {cs:List Cv} {ms:List Nat} {j:Nat} {k b:List Nat},m.ownRows ms cs=some (k,b)->keys (hVc key ms j cs)=k /\
  ∀ i c,cs[i]? =some c->OwnV m (·∈b) (fun r x d=>(r,(x,d))∈hVc key ms j cs) (key+(j+i)) (md ms i) c
 | [],ms,j,k,b,h=>by simp only [Lk.ownRows,Option.some.injEq,Prod.mk.injEq] at h; obtain ⟨rfl,rfl⟩:=h; simp [hVc,keys]
 | c::cs,ms,j,k,b,h=>by
  simp only [Lk.ownRows] at h
  cases hr:m.ownRows (tl ms) cs with
  | none=>simp [hr] at h
  | some p =>
   obtain ⟨k0,b0⟩:=p
   simp only [hr] at h
   obtain ⟨i1,i2⟩:=ownRows_inv key (j:=j+1) hr
   have rest:∀ (b':List Nat) (pre:List (Nat×(Nat×Nat))),(∀ x∈b0,x∈b')->hVc key ms j (c::cs)=pre++hVc key (tl ms) (j+1) cs ->
     OwnV m (·∈b') (fun r x d=>(r,(x,d))∈hVc key ms j (c::cs)) (key+(j+0)) (md ms 0) c ->
     ∀ i c',(c::cs)[i]? =some c'->OwnV m (·∈b') (fun r x d=>(r,(x,d))∈hVc key ms j (c::cs)) (key+(j+i)) (md ms i) c':=by
    intro b' pre hb hp h0 i c' hc
    cases i with
    | zero=>simp only [List.getElem?_cons_zero,Option.some.injEq] at hc; subst hc; exact h0
    | succ i =>
     have:=i2 i c' (by simpa using hc)
     rw [md_tl,show key+(j+1+i)=key+(j+(i+1)) by omega] at this
     rcases this with ⟨h1,h2⟩ | ⟨h1,h2⟩
     ·exact .inl ⟨h1,fun r hr=>hb _ (h2 r hr)⟩
     ·refine .inr ⟨h1,?_⟩
      rcases h2 with ⟨r,row,e1,e2,e3,e4,e5⟩ | h2
      ·exact .inl ⟨r,row,e1,e2,e3,e4,by rw [hp]; exact List.mem_append_right _ e5⟩
      ·exact .inr h2
   have bor:(hd ms=0\/hd ms=1)->(match c.row with | some r=>some (k0,r::b0) | none=>some (k0,b0))=some (k,b) ->
     keys (hVc key ms j (c::cs))=k/\∀ i c',(c::cs)[i]? =some c'->OwnV m (·∈b) (fun r x d=>(r,(x,d))∈hVc key ms j (c::cs)) (key+(j+i)) (md ms i) c':=fun hm h=>by
    have hp:hVc key ms j (c::cs)=[]++hVc key (tl ms) (j+1) cs:=by rcases hm with hm | hm<;>simp only [hVc,hm]
    cases hrow:c.row with
    | none =>
     rw [hrow] at h; simp only [Option.some.injEq,Prod.mk.injEq] at h; obtain ⟨rfl,rfl⟩:=h
     exact ⟨by rw [hp]; exact i1,rest b0 [] (fun _ h=>h) hp (.inl ⟨hm,fun r hr=>by rw [hrow] at hr; cases hr⟩)⟩
    | some r =>
     rw [hrow] at h; simp only [Option.some.injEq,Prod.mk.injEq] at h; obtain ⟨rfl,rfl⟩:=h
     exact ⟨by rw [hp]; exact i1,rest (r::b0) [] (fun _ h=>List.mem_cons_of_mem _ h) hp (.inl ⟨hm,fun s hs=>by rw [hrow] at hs; cases hs; simp⟩)⟩
   revert h; split
   ·rename_i h0; exact fun h=>bor (.inl h0) h
   ·rename_i h1; exact fun h=>bor (.inr h1) h
   ·rename_i h0 h1
    split
    ·rename_i r
     cases hrr:m.r r with
     | none=>simp
     | some row =>
      cases hk:hdK (hd ms)&&notIo r with
      | false=>simp [hk]
      | true =>
       cases hle:leK (hd ms) row.ow with
       | false=>simp [hk,hle]
       | true =>
        simp only [hk,hle,Option.some.injEq,Prod.mk.injEq]
        rintro ⟨rfl,rfl⟩
        simp only [Bool.and_eq_true] at hk
        have hp:hVc key ms j (.sw r::cs)=[(r,(key+j,hd ms))]++hVc key (tl ms) (j+1) cs:=by
         simp only [hVc]
        exact ⟨by rw [hp,keys_append,i1]; rfl,rest b0 _ (fun _ h=>h) hp (.inr ⟨hk.1,.inl ⟨r,row,rfl,hrr,hle,hk.2,by rw [hp,Nat.add_zero]; simp [md_zero]⟩⟩)⟩
    ·rename_i τ
     cases hk:hdK (hd ms) with
     | false=>simp
     | true =>
      simp only [Option.some.injEq,Prod.mk.injEq]
      rintro ⟨rfl,rfl⟩
      have hp:hVc key ms j (.nl τ::cs)=[]++hVc key (tl ms) (j+1) cs:=by simp only [hVc]
      exact ⟨by rw [hp]; exact i1,rest b0 [] (fun _ h=>h) hp (.inr ⟨hk,.inr ⟨τ,rfl⟩⟩)⟩
    ·simp
theorem ownRowsOf_inv:∀ {κ:List Nat} {vl:List (List Nat)} {k0:Nat} {k b:List Nat},m.ownRowsOf vl κ=some (k,b)->keys (hVars m k0 vl κ)=k /\
  ∀ (i v:Nat),κ[i]? =some v->∃ cs,m.v v=some cs/\∀ j c,cs[j]? =some c->OwnV m (·∈b) (fun r x d=>(r,(x,d))∈hVars m k0 vl κ) (300000+(k0+i)*64+j) (md (mdL vl i) j) c
 | [],vl,k0,k,b,h=>by simp only [Lk.ownRowsOf,Option.some.injEq,Prod.mk.injEq] at h; obtain ⟨rfl,rfl⟩:=h; simp [hVars,keys]
 | v::κ,vl,k0,k,b,h=>by
  simp only [Lk.ownRowsOf] at h
  cases hv:m.v v with
  | none=>simp [hv] at h
  | some cs =>
   cases h1:m.ownRows (hdL vl) cs with
   | none=>simp [hv,h1] at h
   | some p =>
    cases h2:m.ownRowsOf (tl vl) κ with
    | none=>simp [hv,h1,h2] at h
    | some q =>
     obtain ⟨a1,b1⟩:=p
     obtain ⟨a2,b2⟩:=q
     simp only [hv,h1,h2,Option.some.injEq,Prod.mk.injEq] at h
     obtain ⟨rfl,rfl⟩:=h
     obtain ⟨i1,i2⟩:=ownRows_inv (300000+k0*64) (j:=0) h1
     obtain ⟨j1,j2⟩:=ownRowsOf_inv (k0:=k0+1) h2
     have hp:hVars m k0 vl (v::κ)=hVc (300000+k0*64) (hdL vl) 0 cs++hVars m (k0+1) (tl vl) κ:=by simp only [hVars,hv]
     refine ⟨by rw [hp,keys_append,i1,j1],fun i u hu=> ?_⟩
     have lift:∀ {B B':Nat->Prop} {G G':Nat->Nat->Nat->Prop} {key d:Nat} {c:Cv},(∀ r,B r->B' r)->(∀ r k d,G r k d->G' r k d)->OwnV m B G key d c->OwnV m B' G' key d c:=by
      intro B B' G G' key d c hB hG h
      rcases h with ⟨h1,h2⟩ | ⟨h1,⟨r,row,e1,e2,e3,e4,e5⟩ | h2⟩
      ·exact .inl ⟨h1,fun r hr=>hB _ (h2 r hr)⟩
      ·exact .inr ⟨h1,.inl ⟨r,row,e1,e2,e3,e4,hG _ _ _ e5⟩⟩
      ·exact .inr ⟨h1,.inr h2⟩
     cases i with
     | zero =>
      simp only [List.getElem?_cons_zero,Option.some.injEq] at hu; subst hu
      refine ⟨cs,hv,fun j c hc=> ?_⟩
      have:=i2 j c hc
      rw [Nat.zero_add] at this
      rw [Nat.add_zero,mdL_zero]
      exact lift (fun r hr=>List.mem_append_left _ hr) (fun r k d hg=>by rw [hp]; exact List.mem_append_left _ hg) this
     | succ i =>
      obtain ⟨cs',hv',h3⟩:=j2 i u (by simpa using hu)
      refine ⟨cs',hv',fun j c hc=> ?_⟩
      have:=h3 j c hc
      rw [mdL_tl,show k0+1+i=k0+(i+1) by omega] at this
      exact lift (fun r hr=>List.mem_append_right _ hr) (fun r k d hg=>by rw [hp]; exact List.mem_append_right _ hg) this
theorem vins_inv:∀ {κ:List Nat} {vl:List (List Nat)} {vin:List (List Ct)},m.vins vl κ=some vin->vin.length=κ.length /\
  ∀ (i v:Nat),κ[i]? =some v->∃ cs l,m.v v=some cs/\m.cts cs=some l/\vin[i]? =some l/\cs.length<=63
 | [],vl,vin,h=>by simp only [Lk.vins,Option.some.injEq] at h; subst h; simp
 | v::κ,vl,vin,h=>by
  simp only [Lk.vins] at h
  cases hv:m.v v with
  | none=>simp [hv] at h
  | some cs =>
   cases hb:Nat.ble cs.length 63 with
   | false=>simp [hv,hb] at h
   | true =>
    cases hc:m.cts cs with
    | none=>simp [hv,hb,hc] at h
    | some l =>
     cases hr:m.vins (tl vl) κ with
     | none=>simp [hv,hb,hc,hr] at h
     | some r =>
      simp only [hv,hb,hc,hr,Option.some.injEq] at h; subst h
      obtain ⟨i1,i2⟩:=vins_inv hr
      refine ⟨by simp [i1],fun i u hu=> ?_⟩
      cases i with
      | zero=>simp only [List.getElem?_cons_zero,Option.some.injEq] at hu; subst hu; exact ⟨cs,l,hv,hc,rfl,Nat.le_of_ble_eq_true hb⟩
      | succ i =>
       obtain ⟨cs',l',h1,h2,h3,h4⟩:=i2 i u (by simpa using hu)
       exact ⟨cs',l',h1,h2,by simpa using h3,h4⟩
theorem cts_get:∀ {cs:List Cv} {ys:List Ct},m.cts cs=some ys->ys.length=cs.length/\∀ (i:Nat) (y:Ct),ys[i]? =some y->∃ c,cs[i]? =some c/\m.ct c=some y
 | [],ys,h=>by simp only [Lk.cts,Option.some.injEq] at h; subst h; simp
 | c::cs,ys,h=>by
  simp only [Lk.cts] at h
  cases h1:m.ct c with
  | none=>simp [h1] at h
  | some y =>
   cases h2:m.cts cs with
   | none=>simp [h1,h2] at h
   | some r =>
    simp only [h1,h2,Option.some.injEq] at h; subst h
    obtain ⟨i1,i2⟩:=cts_get h2
    refine ⟨by simp [i1],fun i u hu=> ?_⟩
    cases i with
    | zero=>simp only [List.getElem?_cons_zero,Option.some.injEq] at hu; subst hu; exact ⟨c,rfl,h1⟩
    | succ i=>simpa using i2 i u (by simpa using hu)
structure CallI where
 m:Lk
 g:Sig
 avs:List AV
 ar:AR
 vin:List (List Ct)
 ow:List Nat
 b:List Nat
structure CallI.Ok (c:CallI):Prop where
 args:c.m.args c.g.am c.avs []=some c.ar
 vins:c.m.vins c.g.vl c.ar.κ=some c.vin
 hand:c.m.handed c.g c.ar=some (c.ow,c.b)
 len:c.avs.length<=1000
 klen:c.ar.κ.length<=1000
def CallI.H (c:CallI):List (Nat×(Nat×Nat)):=hGone c.g.am 0 c.avs++(hVars c.m 0 c.g.vl c.ar.κ++hIo c.g.am 0 c.avs)
def CallI.bor (c:CallI) (r:Nat):Prop:=r∈c.ar.bor\/r∈c.b
open Classical in
noncomputable def CallI.rb (c:CallI):Rb where
 r r:=match lk c.H r with
  | some p=>some p
  | none=>if r∈c.ar.fz then some (0,3) else if c.bor r/\∃ row,c.m.r r=some row/\ownK row.ow=true then some (0,1) else none
 d:=some .x
 v v:=match idxO v 0 c.ar.κ with | some k=>some (.v k) | none=>some .x
def cellAt (v:Value) (j:Nat):Value:=v.cells.toList.getD j undef
def CallI.rv (c:CallI) (γ:Gh) (w:World) (args:List Value) (key:Nat):Value :=
 if key<200000 then cellAt (args.getD ((key-100000)/64) undef) ((key-100000) % 64) else if key<300000 then args.getD ((key-200000)/64) undef
 else match w.heap[γ.vb (c.ar.κ.getD ((key-300000)/64) 0)]? with
  | some (.cells cur _ _)=>cur.toList.getD ((key-300000) % 64) undef
  | _=>undef
noncomputable def CallI.O (c:CallI) (γ:Gh):OM:=fun g=>(γ.O g).bind c.rb.f
open Classical in
noncomputable def CallI.cv (c:CallI) (X:Ctx) (γ:Gh) (w:World) (args:List Value) (key:Nat):List Value :=
 match (entry c.g c.ar.acs c.vin).lk.r key with
 | some row=>if h:∃ cs,RowR X (c.O γ) w key row (c.rv γ w args key) cs then Classical.choose h else []
 | none=>[]
noncomputable def CallI.gh (c:CallI) (X:Ctx) (γ:Gh) (w:World) (args:List Value):Gh:=⟨c.O γ,c.rv γ w args,c.cv X γ w args,fun k=>γ.vb (c.ar.κ.getD k 0)⟩
structure CallI.Fact (c:CallI):Prop where
 nd:(keys c.H).Nodup
 hk:∀ r k d,(r,(k,d))∈c.H->c.rb.r r=some (k,d)
 fz:∀ r,r∈c.ar.fz->c.rb.r r=some (0,3)
 bor:∀ r,c.bor r->lk c.H r=none
 fzH:∀ r,r∈c.ar.fz->lk c.H r=none
 kH:keys c.H=c.ar.gone++(c.ow++c.ar.io)
theorem CallI.Ok.fact {c:CallI} (h:c.Ok):c.Fact:=by
 have ha:=args_inv c.avs c.g.am [] 0 c.ar h.args
 have hh:=h.hand
 simp only [Lk.handed] at hh
 cases ho:c.m.ownRowsOf c.g.vl c.ar.κ with
 | none=>simp [ho] at hh
 | some p =>
  obtain ⟨ow,b⟩:=p
  simp only [ho] at hh
  have hk1:=(ownRowsOf_inv (k0:=0) ho).1
  revert hh; split
  ·rename_i n1 n2 n3 n4
   intro hh; simp only [Option.some.injEq,Prod.mk.injEq] at hh
   obtain ⟨e1,e2⟩:=hh
   rw [e1] at n1 n2 n3 n4 hk1
   rw [e2] at n4
   have kH:keys c.H=c.ar.gone++(c.ow++c.ar.io):=by
    simp only [CallI.H,keys_append,ha.gone,ha.io,hk1]
   have nd:(keys c.H).Nodup:=by rw [kH]; exact nodupN_iff.1 n1
   have no:∀ r,r∉c.ar.gone++(c.ow++c.ar.io)->lk c.H r=none:=fun r hr=>lk_none.2 (by rw [kH]; exact hr)
   have fzH:∀ r,r∈c.ar.fz->lk c.H r=none:=fun r hr=>no r (disjN_iff.1 n2 r hr)
   refine ⟨nd,fun r k d hm=> ?_,fun r hr=> ?_,fun r hr=> ?_,fzH,kH⟩
   ·simp only [CallI.rb,lk_of_mem nd hm]
   ·simp only [CallI.rb,fzH r hr,if_pos hr]
   ·rcases hr with hr | hr
    ·exact no r (disjN_iff.1 n3 r hr)
    ·exact no r (disjN_iff.1 n4 r hr)
  ·intro hh; cases hh
theorem InR_cases {r ow:Nat} {o:Option Ow} (h:InR r ow o):o=none\/o=some .fz\/(o=some (.r r)/\ownK ow=true)\/∃ e c,o=some (.n r e c)/\ow=5:=by
 rcases h with h | ⟨e,c,h⟩
 ·revert h; simp only [topC]; split
  ·rename_i ho; exact fun h=> .inr (.inr (.inl ⟨h,ho⟩))
  ·split
   ·exact fun h=> .inr (.inl h)
   ·exact fun h=>h.elim .inl (fun h=> .inr (.inl h))
 ·revert h; simp only [nesC]; split
  ·exact fun h=> .inr (.inr (.inr ⟨e,c,h,rfl⟩))
  ·exact fun h=> .inr (.inl h)
  ·exact fun h=> .inr (.inl h)
  ·exact fun h=>h.elim .inl (fun h=> .inr (.inl h))
theorem CallI.Fact.in_bor {c:CallI} (hf:c.Fact) {r:Nat} (hb:c.bor r) {row:Row} (hr:c.m.r r=some row) {o:Option Ow} (h:InR r row.ow o):In .bor (o.bind c.rb.f):=by
 have key:ownK row.ow=true->c.rb.r r=some (0,3)\/c.rb.r r=some (0,1):=by
  intro ho
  by_cases hz:r∈c.ar.fz
  ·exact .inl (hf.fz r hz)
  ·right; simp only [CallI.rb,hf.bor r hb,if_neg hz,if_pos (⟨hb,row,hr,ho⟩:c.bor r/\∃ row,c.m.r r=some row/\ownK row.ow=true)]
 rcases InR_cases h with rfl | rfl | ⟨rfl,ho⟩ | ⟨e,c',rfl,h5⟩
 ·exact .inl rfl
 ·exact .inr rfl
 ·show In .bor (c.rb.f (.r r))
  rcases key ho with h1 | h1<;>simp only [Rb.f,h1]
  ·exact .inr rfl
  ·exact .inl rfl
 ·show In .bor (c.rb.f (.n r e c'))
  rcases key (by rw [h5]; rfl) with h1 | h1<;>simp only [Rb.f,h1]
  ·exact .inr rfl
  ·exact .inl rfl
theorem RowR.nil (X:Ctx) (O:OM) (w:World) (k:Nat) (τ:Ty) (d:Nat):RowR X O w k ⟨τ,[],d⟩ (.slice none 0 0) []:=by
 refine ⟨?_,fun e c ct he=>by simp at he⟩
 show Sl X O w (topC k d) τ _ _ _
 cases topC k d with
 | own t=>exact ⟨World.ownsRow_nil w 0 _ _,by simp [Value.ownBlock]⟩
 | _=>exact ⟨by simp,.inl ⟨rfl,rfl⟩⟩
theorem ct_l_vw {c:Cv} {τ:Ty} {xs:List (El τ)} (h:m.ct c=some (.l τ xs)):(m.vw c).ct=some (.l τ xs):=by
 cases c<;>first | exact h | (simp [Lk.ct] at h; done)
theorem CallI.Fact.cell {c:CallI} (hf:c.Fact) (hm:Le c.m S.lk) (hR:Rel X S.lk γ w) {x:Cv} {u:Value} (hx:RelC S.lk γ x u) {τ:Ty} {xs:List (El τ)} (hct:c.m.ct x=some (.l τ xs)) {key d:Nat}
  (h:(d=1/\∀ r,x.row=some r->c.bor r)\/(hdK d=true/\OwnC c.m d x/\∀ r,x= .sw r->(r,(key,d))∈c.H\/(d=3/\r∈c.ar.fz))) :
  ∃ cs,RowR X (c.O γ) w key ⟨τ,xs,d⟩ u cs:=by
 rcases h with ⟨rfl,hb⟩ | ⟨hd,ho,hh⟩
 ·obtain ⟨cs,hv⟩:=vw_visI (A:=fun g=>In .bor (c.O γ g)) hm hR hx (fun r row g hr hxr hi=>hf.in_bor (hb r hxr) hr hi) (ct_l_vw hct)
  exact ⟨cs,hv.of_bor⟩
 ·rcases ho with ⟨r,row,rfl,hr,hle⟩ | ⟨σ,rfl⟩ | ⟨b,rfl⟩ | ⟨k,n,rfl⟩ | ⟨s,rfl⟩
  ·simp only [Lk.ct,Lk.vw,hr,Vw.ct,Option.some.injEq,Ct.l.injEq] at hct
   obtain ⟨rfl,hct⟩:=hct; cases hct
   obtain ⟨_,rfl⟩:=hx
   rcases hh r rfl with h1 | ⟨rfl,h1⟩
   ·exact ⟨γ.cv r,(hR.rs r row (hm.r r row hr)).relabel (a:=c.rb) (fun _=>hf.hk r key d h1) hle (fun g o hg _=>⟨hg,rfl⟩)⟩
   ·have:=(hR.rs r row (hm.r r row hr)).relabel (a:=c.rb) (O':=c.O γ) (fun _=>hf.fz r h1) hle (fun g o hg _=>⟨hg,rfl⟩)
    exact ⟨γ.cv r,this.top,this.cel⟩
  ·simp only [Lk.ct,Lk.vw,Vw.ct,Option.some.injEq,Ct.l.injEq] at hct
   obtain ⟨rfl,hct⟩:=hct; cases hct
   have hx:u= .slice none 0 0:=hx
   subst hx
   exact ⟨[],RowR.nil _ _ _ _ _ _⟩
  ·simp [Lk.ct] at hct
  ·simp [Lk.ct] at hct
  ·simp [Lk.ct] at hct
theorem RelAs.of_get {m:Lk} {γ:Gh}:∀ {l:List AV} {u:List Value},l.length=u.length->(∀ (i:Nat) (x:AV) (v:Value),l[i]? =some x->u[i]? =some v->RelA m γ x v)->RelAs m γ l u
 | [],[],_,_=> .nil
 | [],_::_,h,_=>by simp at h
 | _::_,[],h,_=>by simp at h
 | x::l,v::u,hl,h=> .cons (h 0 x v rfl rfl) (RelAs.of_get (by simpa using hl) fun i x v hx hv=>h (i+1) x v hx hv)
theorem RelAs.get {m:Lk} {γ:Gh} {l:List AV} {u:List Value} (h:RelAs m γ l u):l.length=u.length/\∀ (i:Nat) (x:AV),l[i]? =some x->∃ v,u[i]? =some v/\RelA m γ x v:=by
 induction h with
 | nil=>simp
 | cons hx _ ih =>
  refine ⟨by simp [ih.1],fun i y hy=> ?_⟩
  cases i with
  | zero=>simp at hy; subst hy; exact ⟨_,rfl,hx⟩
  | succ i=>simpa using ih.2 i y (by simpa using hy)
theorem ct_flat {c:Cv} {y:Ct} (h:m.ct c=some y) (hu:y≠ .u) (hl:∀ τ xs,y≠ .l τ xs):RelC M γ c=fun v=>v=ctVal y:=by
 cases c with
 | un=>simp [Lk.ct] at h; exact absurd h.symm hu
 | b x=>simp [Lk.ct] at h; subst h; rfl
 | i k n=>simp [Lk.ct] at h; subst h; rfl
 | s x=>simp [Lk.ct] at h; subst h; rfl
 | _ =>
  exfalso; simp only [Lk.ct] at h
  revert h; cases m.vw _<;>simp [Vw.ct]
  all_goals (intro h; exact hl _ _ h.symm)
theorem entCell_rel {e0:Lk} {γ0:Gh} (hR:Rel X M γ w) {c:Cv} {v:Value} (hx:RelC M γ c v) {y y':Ct} (h:m.ct c=some y) (hy:y'=y\/y'=hideC y) {key:Nat}
  (hl:∀ τ xs,y'= .l τ xs->(∃ row,e0.r key=some row)/\v=γ0.rv key):RelC e0 γ0 (entCell key y') v:=by
 cases y' with
 | u=>exact hx.one hR
 | l τ xs=>exact hl τ xs rfl
 | b x =>
  have:y= .b x:=by rcases hy with h | h; exact h.symm; cases y<;>simp_all [hideC]
  subst this
  have:=ct_flat (M:=M) (γ:=γ) h (by simp) (by simp)
  rw [this] at hx; exact hx
 | i k n =>
  have:y= .i k n:=by rcases hy with h | h; exact h.symm; cases y<;>simp_all [hideC]
  subst this
  have:=ct_flat (M:=M) (γ:=γ) h (by simp) (by simp)
  rw [this] at hx; exact hx
 | s x =>
  have:y= .s x:=by rcases hy with h | h; exact h.symm; cases y<;>simp_all [hideC]
  subst this
  have:=ct_flat (M:=M) (γ:=γ) h (by simp) (by simp)
  rw [this] at hx; exact hx
theorem byv_rel (hR:Rel X M γ w) {v:AV} {x:AC} {cs:List Cv} {ys:List Ct} (h:ByV v x cs ys) {u:Value} (hv:RelA M γ v u):(v= .c .un/\cs=[.un])\/RelL M γ cs u.cells.toList:=by
 rcases h with ⟨rfl,rfl⟩ | ⟨c,y,rfl,rfl,rfl,rfl⟩
 ·exact .inr (cells_ok hR hv rfl)
 ·by_cases hu:c= .un
  ·subst hu; exact .inl ⟨rfl,rfl⟩
  ·right; exact cells_ok hR hv (by cases c<;>first | rfl | exact absurd rfl hu)
theorem CallI.rv_arg (c:CallI) (γ:Gh) (w:World) (args:List Value) (P j:Nat) (hj:j<64) (hP:P<=1000):c.rv γ w args (100000+P*64+j)=cellAt (args.getD P undef) j:=by
 have h1:100000+P*64+j<200000:=by omega
 have h2:(100000+P*64+j-100000)/64=P:=by omega
 have h3:(100000+P*64+j-100000) % 64=j:=by omega
 simp only [CallI.rv,if_pos h1,h2,h3]
theorem CallI.rv_io (c:CallI) (γ:Gh) (w:World) (args:List Value) (P:Nat) (hP:P<=1000):c.rv γ w args (200000+P*64)=args.getD P undef:=by
 have h1:¬ 200000+P*64<200000:=by omega
 have h2:200000+P*64<300000:=by omega
 have h3:(200000+P*64-200000)/64=P:=by omega
 simp only [CallI.rv,if_neg h1,if_pos h2,h3]
theorem CallI.rv_var (c:CallI) (γ:Gh) (w:World) (args:List Value) (k j v:Nat) (hj:j<64) (hk:c.ar.κ[k]? =some v) {cur:Array Value} {e:TypeId} {fz:Nat×Nat} (hc:w.heap[γ.vb v]? =some (.cells cur e fz)) :
  c.rv γ w args (300000+k*64+j)=cur.toList.getD j undef:=by
 have h1:¬ 300000+k*64+j<200000:=by omega
 have h2:¬ 300000+k*64+j<300000:=by omega
 have h3:(300000+k*64+j-300000)/64=k:=by omega
 have h4:(300000+k*64+j-300000) % 64=j:=by omega
 have h5:c.ar.κ.getD k 0=v:=by simp [List.getD,hk]
 simp only [CallI.rv,if_neg h1,if_neg h2,h3,h4,h5,hc]
structure CallI.Ent (c:CallI) (X:Ctx) (S:St) (γ:Gh) (w:World) (args:List Value):Prop where
 ok:c.Ok
 le:Le c.m S.lk
 rel:Rel X S.lk γ w
 top:∀ g,w.heap.size<=g->γ.O g=none
 args:RelAs S.lk γ c.avs args
theorem CallI.Ent.arg {c:CallI} {args:List Value} (h:c.Ent X S γ w args) {P:Nat} {x:AC} (hx:c.ar.acs[P]? =some x):∃ v u,c.avs[P]? =some v/\args[P]? =some u/\args.getD P undef=u/\RelA S.lk γ v u/\P<=1000 /\
  ArgR c.m c.ar.κ (fun r k d=>(r,(k,d))∈c.H) (·∈c.ar.fz) (·∈c.ar.bor) (c.ar.imm=true) (md c.g.am P) P v x:=by
 have ha:=args_inv c.avs c.g.am [] 0 c.ar h.ok.args
 have hP:P<c.avs.length:=by have:=(List.getElem?_eq_some_iff.1 hx).1; rw [ha.len] at this; exact this
 have hv:c.avs[P]? =some c.avs[P]:=List.getElem?_eq_getElem hP
 obtain ⟨u,hu,hr⟩:=h.args.get.2 P _ hv
 obtain ⟨x',hx',hA⟩:=ha.arg P _ hv
 rw [hx] at hx'; cases hx'
 refine ⟨_,u,hv,hu,by simp [List.getD,hu],hr,by have:=h.ok.len; omega,?_⟩
 rw [Nat.zero_add] at hA
 refine hA.mono (fun _ _ h=>h) (fun r k d hg=> ?_) (fun _ h=>h) (fun _ h=>h) id
 simp only [CallI.H,List.mem_append] at hg ⊢
 rcases hg with hg | hg
 ·exact .inl hg
 ·exact .inr (.inr hg)
theorem hdK_cases {d:Nat} (h:hdK d=true):d=3\/d=4\/d=5:=by revert h; simp only [hdK]; split<;>simp_all
theorem kd_hd {d:Nat} (h:hdK d=true):kd 0 d=d:=by rcases hdK_cases h with rfl | rfl | rfl<;>rfl
theorem CallI.Ent.row {c:CallI} {args:List Value} (h:c.Ent X S γ w args) {key:Nat} {row:Row} (hr:(entry c.g c.ar.acs c.vin).lk.r key=some row) :
  ∃ cs,RowR X (c.O γ) w key row (c.rv γ w args key) cs:=by
 have hf:=h.ok.fact
 rcases entry_r hr with ⟨P,x,hx,hA⟩ | ⟨k,l,j,τ,xs,hl,hj,rfl,rfl⟩
 ·obtain ⟨v,u,hv,hu,hgu,hrv,hP,hA2⟩:=h.arg hx
  rcases hA with ⟨j,τ,xs,hj,rfl,rfl⟩ | ⟨τ,xs,rfl,rfl,rfl⟩
  ·cases hA2 with
   | val h1 h2 h3 h4 =>
    rename_i cs ys ys'
    have hacl:acl x=ys':=by rcases h1 with ⟨_,rfl⟩ | ⟨_,_,_,rfl,_,rfl⟩<;>rfl
    rw [hacl] at hj
    rcases h4 with ⟨hd,rfl,hb,_⟩ | ⟨hd,rfl⟩ | ⟨hd,rfl,ho,hz,hg,_⟩
    ·obtain ⟨cc,hc,hct⟩:=(cts_get h3).2 j _ hj
     rcases byv_rel h.rel h1 hrv with ⟨rfl,rfl⟩ | hrl
     ·cases j<;>simp at hc; subst hc; simp [Lk.ct] at hct
     ·obtain ⟨uv,huv,hrc⟩:=hrl.get hc
      have hjl:j<64:=by have:=(List.getElem?_eq_some_iff.1 hc).1; omega
      rw [c.rv_arg γ w args P j hjl hP,hgu,show cellAt u j=uv by simp [cellAt,List.getD,huv]]
      rw [hd]
      exact hf.cell h.le h.rel hrc hct (.inl ⟨rfl,fun r hr=> .inl (hb cc (List.mem_of_getElem? hc) r hr)⟩)
    ·rw [List.getElem?_map] at hj
     cases hy:ys[j]? with
     | none=>rw [hy] at hj; cases hj
     | some y=>rw [hy] at hj; cases y<;>simp [hideC] at hj
    ·obtain ⟨cc,hc,hct⟩:=(cts_get h3).2 j _ hj
     rcases byv_rel h.rel h1 hrv with ⟨rfl,rfl⟩ | hrl
     ·cases j<;>simp at hc; subst hc; simp [Lk.ct] at hct
     ·obtain ⟨uv,huv,hrc⟩:=hrl.get hc
      have hjl:j<64:=by have:=(List.getElem?_eq_some_iff.1 hc).1; omega
      rw [c.rv_arg γ w args P j hjl hP,hgu,show cellAt u j=uv by simp [cellAt,List.getD,huv],kd_hd hd]
      refine hf.cell h.le h.rel hrc hct (.inr ⟨hd,ho cc (List.mem_of_getElem? hc),fun r e=> ?_⟩)
      by_cases h3':md c.g.am P=3
      ·exact .inr ⟨h3',hz h3' cc (List.mem_of_getElem? hc) r e⟩
      ·exact .inl (hg h3' j r (by rw [hc,e]))
   | io h1 h2 h3 h4=>simp [acl] at hj
   | _=>simp [acl] at hj
  ·cases hA2 with
   | io h0 h1 h2 h3 =>
    rename_i r
    rw [c.rv_io γ w args P hP,hgu]
    have hrc:RelC S.lk γ (.sw r) u:=hrv
    exact hf.cell h.le h.rel hrc (by simp [Lk.ct,Lk.vw,h2,Vw.ct]) (.inr ⟨rfl,.inl ⟨r,_,rfl,h2,rfl⟩,fun s e=>by cases e; exact .inl h3⟩)
   | val h1=>rcases h1 with ⟨_,h⟩ | ⟨_,_,_,h,_⟩<;>cases h
 ·have hvi:=vins_inv h.ok.vins
  have hk:k<c.ar.κ.length:=by have:=(List.getElem?_eq_some_iff.1 hl).1; rw [hvi.1] at this; exact this
  have hkv:c.ar.κ[k]? =some c.ar.κ[k]:=List.getElem?_eq_getElem hk
  obtain ⟨cs,l',hcs,hct,hl',h63⟩:=hvi.2 k _ hkv
  rw [hl] at hl'; cases hl'
  obtain ⟨cc,hc,hcc⟩:=(cts_get hct).2 j _ hj
  obtain ⟨_,cur,e,hcur,hrl⟩:=h.rel.vs _ cs (h.le.v _ _ hcs)
  obtain ⟨uv,huv,hrc⟩:=hrl.get hc
  have hjl:j<64:=by have:=(List.getElem?_eq_some_iff.1 hc).1; omega
  rw [c.rv_var γ w args k j _ hjl hkv hcur,show cur.toList.getD j undef=uv by simp only [List.getD,huv]; rfl]
  have hh:=h.ok.hand
  simp only [Lk.handed] at hh
  cases ho:c.m.ownRowsOf c.g.vl c.ar.κ with
  | none=>simp [ho] at hh
  | some p =>
   obtain ⟨ow,b⟩:=p
   have hb:b=c.b:=by
    simp only [ho] at hh
    revert hh; split
    ·intro hh; simp only [Option.some.injEq,Prod.mk.injEq] at hh; exact hh.2
    ·intro hh; cases hh
   obtain ⟨cs2,hcs2,hov⟩:=(ownRowsOf_inv (k0:=0) ho).2 k _ hkv
   rw [hcs] at hcs2; cases hcs2
   have hov:=hov j cc hc
   rw [Nat.zero_add] at hov
   have hH:∀ r x d,(r,(x,d))∈hVars c.m 0 c.g.vl c.ar.κ->(r,(x,d))∈c.H:=fun r x d hm=>List.mem_append_right _ (List.mem_append_left _ hm)
   rcases hov with ⟨hd,hbb⟩ | ⟨hd,⟨r,row,rfl,e2,e3,e4,e5⟩ | ⟨σ,rfl⟩⟩
   ·have:kd 0 (md (mdL c.g.vl k) j)=1:=by rcases hd with h | h<;>rw [h]<;>rfl
    rw [this]
    exact hf.cell h.le h.rel hrc hcc (.inl ⟨rfl,fun r hr=> .inr (hb▸hbb r hr)⟩)
   ·rw [kd_hd hd]
    exact hf.cell h.le h.rel hrc hcc (.inr ⟨hd,.inl ⟨r,row,rfl,e2,e3⟩,fun s e=>by cases e; exact .inl (hH _ _ _ e5)⟩)
   ·rw [kd_hd hd]
    exact hf.cell h.le h.rel hrc hcc (.inr ⟨hd,.inr (.inl ⟨σ,rfl⟩),fun s e=>by cases e⟩)
theorem CallI.Ent.pre {c:CallI} {args:List Value} (h:c.Ent X S γ w args):Pre X c.g c.ar.acs c.vin (c.gh X γ w args) w args:=by
 have hf:=h.ok.fact
 have ha:=args_inv c.avs c.g.am [] 0 c.ar h.ok.args
 have hvi:=vins_inv h.ok.vins
 refine ⟨⟨fun k cs hk=> ?_,fun key row hr=> ?_⟩,fun b hb=> ?_,RelAs.of_get ?_ fun P x u hx hu=> ?_⟩
 ·rw [entry_v] at hk
  cases hl:c.vin[k]? with
  | none=>rw [hl] at hk; cases hk
  | some l =>
   rw [hl] at hk; simp only [Option.map_some,Option.some.injEq] at hk; subst hk
   have hkl:k<c.ar.κ.length:=by have:=(List.getElem?_eq_some_iff.1 hl).1; rw [hvi.1] at this; exact this
   have hkv:c.ar.κ[k]? =some c.ar.κ[k]:=List.getElem?_eq_getElem hkl
   obtain ⟨cs,l',hcs,hct,hl',h63⟩:=hvi.2 k _ hkv
   rw [hl] at hl'; cases hl'
   obtain ⟨hO,cur,e,hcur,hrl⟩:=h.rel.vs _ cs (h.le.v _ _ hcs)
   have hvb:(c.gh X γ w args).vb k=γ.vb c.ar.κ[k]:=by show γ.vb (c.ar.κ.getD k 0)=_; simp [List.getD,hkv]
   rw [hvb]
   have hidx:idxO c.ar.κ[k] 0 c.ar.κ=some k:=by
    cases hi:idxO c.ar.κ[k] 0 c.ar.κ with
    | none=>exact absurd (List.getElem_mem hkl) (idxO_none hi)
    | some k' =>
     have h1:=(idxO_get hi).2
     have hnd:c.ar.κ.Nodup:=ha.nd (by simp)
     have h2:k'-0<c.ar.κ.length:=(List.getElem?_eq_some_iff.1 h1).1
     have:=(List.getElem?_inj h2 hnd).1 (h1.trans hkv.symm)
     rw [← this]; simp
   refine ⟨?_,cur,e,hcur,?_⟩
   ·show (γ.O (γ.vb c.ar.κ[k])).bind c.rb.f=some (.v k)
    rw [hO]
    show c.rb.f (.v c.ar.κ[k])=_
    simp only [Rb.f,CallI.rb,hidx]
   ·have hlen:=(cts_get hct).1
    have hlr:=hrl.length
    apply RelL.of_get
    ·rw [entC_length,hlen]; exact hlr
    ·intro j x v hx hv
     rw [entC_get] at hx
     cases hy:l[j]? with
     | none=>rw [hy] at hx; cases hx
     | some y =>
      rw [hy] at hx; simp only [Option.map_some,Option.some.injEq,Nat.add_zero] at hx; subst hx
      obtain ⟨cc,hc,hcc⟩:=(cts_get hct).2 j _ hy
      obtain ⟨uv,huv,hrc⟩:=hrl.get hc
      rw [hv] at huv; cases huv
      have hjl:j<64:=by have:=(List.getElem?_eq_some_iff.1 hc).1; omega
      refine entCell_rel h.rel hrc hcc (.inl rfl) fun τ xs e1=>⟨entry_has (.inr ⟨k,l,j,τ,xs,hl,by rw [hy,e1],rfl,rfl⟩),?_⟩
      show v=c.rv γ w args (300000+k*64+j)
      rw [c.rv_var γ w args k j _ hjl hkv hcur]; simp only [List.getD,hv]; rfl
 ·have hex:=h.row hr
  show RowR X (c.O γ) w key row (c.rv γ w args key) (c.cv X γ w args key)
  have:c.cv X γ w args key=Classical.choose hex:=by simp only [CallI.cv,hr,dif_pos hex]
  rw [this]; exact Classical.choose_spec hex
 ·show (γ.O b).bind c.rb.f=none
  rw [h.top b hb]; rfl
 ·have hal:(entA c.g.am 0 c.ar.acs).1.length=c.ar.acs.length:=by
   have h1:=entA_get c.ar.acs c.g.am 0
   apply Nat.le_antisymm
   ·apply Nat.not_lt.1; intro hlt
    have:=h1 c.ar.acs.length
    rw [List.getElem?_eq_getElem hlt] at this; simp at this
   ·apply Nat.not_lt.1; intro hlt
    have:=h1 (entA c.g.am 0 c.ar.acs).1.length
    rw [List.getElem?_eq_none (Nat.le_refl _),List.getElem?_eq_getElem hlt] at this; simp at this
  rw [hal,ha.len]; exact h.args.get.1
 ·rw [entA_get] at hx
  cases hy:c.ar.acs[P]? with
  | none=>rw [hy] at hx; cases hx
  | some y =>
   rw [hy] at hx; simp only [Option.map_some,Option.some.injEq,Nat.zero_add] at hx; subst hx
   obtain ⟨v,u',hv,hu',hgu,hrv,hP,hA⟩:=h.arg hy
   rw [hu] at hu'; cases hu'
   have hvar:∀ i k,c.ar.κ[i]? =some k->(∃ cs,(entry c.g c.ar.acs c.vin).lk.v i=some cs)/\(c.gh X γ w args).vb i=γ.vb k:=by
    intro i k hk
    obtain ⟨cs,l,hcs,hct,hl,_⟩:=hvi.2 i k hk
    exact ⟨⟨_,by rw [entry_v,hl]; rfl⟩,by show γ.vb (c.ar.κ.getD i 0)=_; simp [List.getD,hk]⟩
   have hA0:=hA
   cases hA with
   | ptr h0 h1 =>
    rename_i k i
    obtain ⟨h2,h3⟩:=hvar i k h1
    obtain ⟨_,hpv⟩:=hrv
    exact ⟨h2,by rw [h3]; exact hpv⟩
   | fn h0 h1 h2 =>
    rename_i f caps ks
    obtain ⟨_,hfn⟩:=hrv
    refine ⟨fun i hi=> ?_,?_⟩
    ·obtain ⟨n,hn⟩:=List.mem_iff_getElem?.1 hi
     obtain ⟨vv,_,h4⟩:=h2 n i hn
     exact (hvar i vv h4).1
    ·rw [hfn]; congr 2
     apply List.ext_getElem?
     intro n
     simp only [List.getElem?_map]
     cases hn:ks[n]? with
     | none =>
      have:caps[n]? =none:=by
       apply List.getElem?_eq_none
       rw [← h1]
       exact Nat.not_lt.1 fun hlt=>by rw [List.getElem?_eq_getElem hlt] at hn; cases hn
      rw [this]; rfl
     | some i =>
      obtain ⟨vv,h3,h4⟩:=h2 n i hn
      rw [h3]
      simp only [Option.map_some]
      rw [(hvar i vv h4).2]
   | io h0 h1 h2 h3 =>
    rename_i r τ xs
    show RelC _ _ (.sw (200000+P*64)) u
    refine ⟨entry_has (.inl ⟨P,_,hy,.inr ⟨τ,xs,rfl,rfl,rfl⟩⟩),?_⟩
    show u=c.rv γ w args (200000+P*64)
    rw [c.rv_io γ w args P hP,hgu]
   | al h0 h8 h1 h2 h3 =>
    rename_i r vv cc cs
    show RelC _ _ (.sw (300000+0*64+cc)) u
    obtain ⟨cs',l,hcs,hct,hl,h63⟩:=hvi.2 0 vv h1
    rw [h2] at hcs; cases hcs
    have hcl:=(cts_get hct).1
    have hccl:cc<cs.length:=(List.getElem?_eq_some_iff.1 h3).1
    have hl2:l[cc]? =some (l[cc]'(by omega)):=List.getElem?_eq_getElem (by omega)
    obtain ⟨c3,hc3,hct3⟩:=(cts_get hct).2 cc _ hl2
    rw [h3] at hc3; cases hc3
    obtain ⟨_,cur,e,hcur,hrl⟩:=h.rel.vs _ cs (h.le.v _ _ h2)
    obtain ⟨uv,huv,hrc⟩:=hrl.get h3
    have hrr:u=γ.rv r:=hrv.2
    have hru:uv=γ.rv r:=hrc.2
    obtain ⟨row,hrow⟩:∃ row,c.m.r r=some row:=by
     simp only [Lk.ct,Lk.vw] at hct3
     cases hr:c.m.r r with
     | none=>simp [hr,Vw.ct] at hct3
     | some row=>exact ⟨row,rfl⟩
    have hlt:l[cc]'(by omega)= .l row.τ row.xs:=by
     simp only [Lk.ct,Lk.vw,hrow,Vw.ct,Option.some.injEq] at hct3; exact hct3.symm
    refine ⟨entry_has (.inr ⟨0,l,cc,row.τ,row.xs,hl,by rw [hl2,hlt],rfl,rfl⟩),?_⟩
    show u=c.rv γ w args (300000+0*64+cc)
    rw [c.rv_var γ w args 0 cc _ (by omega) h1 hcur,hrr,← hru]; simp only [List.getD,huv]; rfl
   | val h1 h2 h3 h4 =>
    rename_i cs ys ys'
    have hcell:∀ (j:Nat) (y':Ct),ys'[j]? =some y'->∃ (cc:Cv) (y:Ct),cs[j]? =some cc/\c.m.ct cc=some y/\(y'=y\/y'=hideC y):=by
     intro j y' hj
     have main:∀ (y0:Ct),ys[j]? =some y0->∃ cc,cs[j]? =some cc/\c.m.ct cc=some y0:=fun y0 h=>(cts_get h3).2 j y0 h
     rcases h4 with ⟨_,rfl,_⟩ | ⟨_,rfl⟩ | ⟨_,rfl,_⟩
     ·obtain ⟨cc,a,b⟩:=main _ hj; exact ⟨cc,_,a,b,.inl rfl⟩
     ·rw [List.getElem?_map] at hj
      cases hyj:ys[j]? with
      | none=>rw [hyj] at hj; cases hj
      | some y0 =>
       rw [hyj] at hj; simp only [Option.map_some,Option.some.injEq] at hj
       obtain ⟨cc,a,b⟩:=main _ hyj; exact ⟨cc,y0,a,b,.inr hj.symm⟩
     ·obtain ⟨cc,a,b⟩:=main _ hj; exact ⟨cc,_,a,b,.inl rfl⟩
    have hlen:ys'.length=cs.length:=by
     have:=(cts_get h3).1
     rcases h4 with ⟨_,rfl,_⟩ | ⟨_,rfl⟩ | ⟨_,rfl,_⟩
     ·exact this
     ·simpa using this
     ·exact this
    have hacl:acl y=ys':=by rcases h1 with ⟨_,rfl⟩ | ⟨_,_,_,rfl,_,rfl⟩<;>rfl
    have one:∀ (j:Nat) (cc:Cv) (y y':Ct) (uv:Value),cs[j]? =some cc->c.m.ct cc=some y->ys'[j]? =some y'->(y'=y\/y'=hideC y)->RelC S.lk γ cc uv->cellAt u j=uv ->
      RelC (entry c.g c.ar.acs c.vin).lk (c.gh X γ w args) (entCell (100000+P*64+j) y') uv:=by
     intro j cc y0 y' uv hc hct hyj hyy hrc hca
     have hjl:j<64:=by have:=(List.getElem?_eq_some_iff.1 hc).1; omega
     refine entCell_rel h.rel hrc hct hyy fun τ xs e1=>⟨entry_has (.inl ⟨P,y,hy,.inl ⟨j,τ,xs,by rw [hacl,hyj,e1],rfl,rfl⟩⟩),?_⟩
     show uv=c.rv γ w args (100000+P*64+j)
     rw [c.rv_arg γ w args P j hjl hP,hgu,hca]
    rcases h1 with ⟨rfl,rfl⟩ | ⟨c1,y1,rfl,rfl,rfl,rfl⟩
    ·obtain ⟨us,rfl,hrl⟩:=hrv
     refine ⟨us,rfl,RelL.of_get (by rw [entC_length,hlen]; exact hrl.length) fun j x uv hxj huv=> ?_⟩
     rw [entC_get] at hxj
     cases hyj:ys'[j]? with
     | none=>rw [hyj] at hxj; cases hxj
     | some y' =>
      rw [hyj] at hxj; simp only [Option.map_some,Option.some.injEq,Nat.add_zero] at hxj; subst hxj
      obtain ⟨cc,y0,hc,hct,hyy⟩:=hcell j y' hyj
      obtain ⟨uv',huv',hrc⟩:=hrl.get hc
      rw [huv] at huv'; cases huv'
      exact one j cc y0 y' uv hc hct hyj hyy hrc (by simp [cellAt,Value.cells,List.getD,huv])
    ·obtain ⟨cc,y0,hc,hct,hyy⟩:=hcell 0 y1 rfl
     simp only [List.getElem?_cons_zero,Option.some.injEq] at hc; subst hc
     by_cases hun:c1= .un
     ·subst hun
      simp only [Lk.ct,Option.some.injEq] at hct; subst hct
      have:y1= .u:=by rcases hyy with h | h<;>simpa [hideC] using h
      subst this; exact trivial
     ·have hrc:=RelA.to hrv hun
      have h1c:=one_cells (hrc.one h.rel)
      exact RelA.of (one 0 c1 y0 y1 u rfl hct rfl hyy hrc (by simp [cellAt,h1c]))
end Go.Soft
namespace Go.Soft
open Go
variable {X:Ctx} {m M:Lk} {γ γ':Gh} {w w':World} {ρ:Operand->Value} {S:St} {δ:Dl}
inductive NewRows (X:Ctx) (I:Prop) (A:Nat->Prop) (O:OM) (w:World):List (Nat×Row)->List (Nat×(Value×List Value))->List (Nat×(Nat×Nat))->Prop
 | nil:NewRows X I A O w [] [] []
 | own {k1 k:Nat} {row:Row} {v:Value} {cs:List Value} {rs:List (Nat×Row)} {V:List (Nat×(Value×List Value))} {G:List (Nat×(Nat×Nat))}:RowR X O w k1 row v cs->(row.ow=3\/row.ow=4\/row.ow=5) ->
   NewRows X I A O w rs V G->NewRows X I A O w ((k,row)::rs) ((k,(v,cs))::V) ((k1,(k,row.ow))::G)
 | emp {k d:Nat} {τ:Ty} {rs:List (Nat×Row)} {V:List (Nat×(Value×List Value))} {G:List (Nat×(Nat×Nat))}:NewRows X I A O w rs V G ->
   NewRows X I A O w ((k,⟨τ,[],d⟩)::rs) ((k,(.slice none 0 0,[]))::V) G
 | imm {k:Nat} {τ:Ty} {xs:List (El τ)} {v:Value} {cs:List Value} {rs:List (Nat×Row)} {V:List (Nat×(Value×List Value))} {G:List (Nat×(Nat×Nat))}:I->Vis A w τ xs v cs->NewRows X I A O w rs V G ->
   NewRows X I A O w ((k,⟨τ,xs,1⟩)::rs) ((k,(v,cs))::V) G
section
variable {I:Prop} {A:Nat->Prop} {O O':OM} {rs rs':List (Nat×Row)} {V V':List (Nat×(Value×List Value))} {G G':List (Nat×(Nat×Nat))}
theorem NewRows.keys (h:NewRows X I A O w rs V G):keys V=keys rs:=by
 induction h with
 | nil=>rfl
 | own _ _ _ ih=>simp [Soft.keys,ih]
 | emp _ ih=>simp [Soft.keys,ih]
 | imm _ _ _ ih=>simp [Soft.keys,ih]
theorem NewRows.append (h:NewRows X I A O w rs V G) (h':NewRows X I A O w rs' V' G'):NewRows X I A O w (rs++rs') (V++V') (G++G'):=by
 induction h with
 | nil=>exact h'
 | own a b _ ih=>exact .own a b ih
 | emp _ ih=>exact .emp ih
 | imm a b _ ih=>exact .imm a b ih
theorem NewRows.row (h:NewRows X I A O w rs V G) {a:Rb} (hG:∀ p∈G,a.r p.1=some p.2)
  (hown:∀ g o r ow,w.heap[g]? =some o->(ow=3\/ow=4\/ow=5)->InR r ow (O g)->O' g=(O g).bind a.f) (himm:I->∀ g o,w.heap[g]? =some o->A g->In .bor (O' g)) :
  ∀ k row,lk rs k=some row->∃ v cs,lk V k=some (v,cs)/\RowR X O' w k row v cs:=by
 induction h with
 | nil=>intro k row h; simp [lk] at h
 | own hr ho _ ih =>
  rename_i k1 k0 row0 v cs _ _ _ _
  intro k row h
  simp only [lk] at h ⊢
  cases hk:Nat.beq k0 k with
  | false=>simp only [hk] at h ⊢; exact ih (fun p hp=>hG p (List.mem_cons_of_mem _ hp)) k row h
  | true =>
   simp only [hk,Option.some.injEq] at h ⊢; subst h
   have:=nat_beq hk; subst this
   refine ⟨v,cs,rfl,?_⟩
   exact hr.relabel (a:=a) (fun _=>hG _ List.mem_cons_self) (leK_self (by omega)) (fun g o hg hi=>⟨hg,hown g o k1 _ hg ho hi⟩)
 | emp _ ih =>
  rename_i k0 d τ _ _ _ _
  intro k row h
  simp only [lk] at h ⊢
  cases hk:Nat.beq k0 k with
  | false=>simp only [hk] at h ⊢; exact ih hG k row h
  | true =>
   simp only [hk,Option.some.injEq] at h ⊢; subst h
   exact ⟨_,_,rfl,RowR.nil _ _ _ _ _ _⟩
 | imm hI hv _ ih =>
  rename_i k0 τ xs v cs _ _ _ _
  intro k row h
  simp only [lk] at h ⊢
  cases hk:Nat.beq k0 k with
  | false=>simp only [hk] at h ⊢; exact ih hG k row h
  | true =>
   simp only [hk,Option.some.injEq] at h ⊢; subst h
   exact ⟨_,_,rfl,(hv.mono fun g o hg ha=>⟨hg,himm hI g o hg ha⟩).of_bor⟩
end
structure Fits (m':Lk) (γ':Gh) (rs:List (Nat×Row)) (V:List (Nat×(Value×List Value))):Prop where
 r:∀ k row,(k,row)∈rs->∃ row,m'.r k=some row
 v:∀ k v cs,(k,(v,cs))∈V->γ'.rv k=v
theorem Fits.left {m':Lk} {rs rs':List (Nat×Row)} {V V':List (Nat×(Value×List Value))} (h:Fits m' γ' (rs++rs') (V++V')):Fits m' γ' rs V :=
 ⟨fun k row hm=>h.r k row (List.mem_append_left _ hm),fun k v cs hm=>h.v k v cs (List.mem_append_left _ hm)⟩
theorem Fits.right {m':Lk} {rs rs':List (Nat×Row)} {V V':List (Nat×(Value×List Value))} (h:Fits m' γ' (rs++rs') (V++V')):Fits m' γ' rs' V' :=
 ⟨fun k row hm=>h.r k row (List.mem_append_right _ hm),fun k v cs hm=>h.v k v cs (List.mem_append_right _ hm)⟩
theorem Fits.tail {m':Lk} {p:Nat×Row} {q:Nat×(Value×List Value)} {rs:List (Nat×Row)} {V:List (Nat×(Value×List Value))} (h:Fits m' γ' (p::rs) (q::V)):Fits m' γ' rs V :=
 ⟨fun k row hm=>h.r k row (List.mem_cons_of_mem _ hm),fun k v cs hm=>h.v k v cs (List.mem_cons_of_mem _ hm)⟩
theorem Fits.head {m':Lk} {k:Nat} {row:Row} {v:Value} {cs:List Value} {rs:List (Nat×Row)} {V:List (Nat×(Value×List Value))} (h:Fits m' γ' ((k,row)::rs) ((k,(v,cs))::V)):RelC m' γ' (.sw k) v :=
 ⟨h.r k row List.mem_cons_self,(h.v k v cs List.mem_cons_self).symm⟩
theorem CallI.Ent.argc {c:CallI} {args:List Value} (h:c.Ent X S γ w args) {p j:Nat} (hj:j<64) (hlt:100000+p*64+j<200000) {row:Row} (hr:(entry c.g c.ar.acs c.vin).lk.r (100000+p*64+j)=some row) :
  ∃ cc,argC c.avs p j=some cc/\RelC S.lk γ cc (c.rv γ w args (100000+p*64+j))/\c.m.ct cc=some (.l row.τ row.xs):=by
 rcases entry_r hr with ⟨P,x,hx,hA⟩ | ⟨k,l,j',τ,xs,hl,hj',hk,_⟩
 ·obtain ⟨v,u,hv,hu,hgu,hrv,hP,hA2⟩:=h.arg hx
  rcases hA with ⟨j',τ,xs,hj',hk,rfl⟩ | ⟨τ,xs,rfl,hk,rfl⟩
  ·cases hA2 with
   | val h1 h2 h3 h4 =>
    rename_i cs ys ys'
    have hacl:acl x=ys':=by rcases h1 with ⟨_,rfl⟩ | ⟨_,_,_,rfl,_,rfl⟩<;>rfl
    rw [hacl] at hj'
    have hlen:ys.length=cs.length:=(cts_get h3).1
    have hjl:j'<64:=by
     have h5:=(List.getElem?_eq_some_iff.1 hj').1
     rcases h4 with ⟨_,rfl,_⟩ | ⟨_,rfl⟩ | ⟨_,rfl,_⟩
     ·omega
     ·simp at h5; omega
     ·omega
    obtain ⟨rfl,rfl⟩:p=P/\j=j':=by omega
    have hys:ys[j]? =some (.l τ xs):=by
     rcases h4 with ⟨_,rfl,_⟩ | ⟨_,rfl⟩ | ⟨_,rfl,_⟩
     ·exact hj'
     ·rw [List.getElem?_map] at hj'
      cases hy:ys[j]? with
      | none=>rw [hy] at hj'; cases hj'
      | some y=>rw [hy] at hj'; cases y<;>simp [hideC] at hj'
     ·exact hj'
    obtain ⟨cc,hc,hct⟩:=(cts_get h3).2 j _ hys
    rcases byv_rel h.rel h1 hrv with ⟨rfl,rfl⟩ | hrl
    ·cases j<;>simp at hc; subst hc; simp [Lk.ct] at hct
    ·obtain ⟨uv,huv,hrc⟩:=hrl.get hc
     refine ⟨cc,?_,?_,hct⟩
     ·simp only [argC,nth_eq,hv]
      rcases h1 with ⟨rfl,_⟩ | ⟨c1,y1,rfl,_,rfl,_⟩
      ·exact hc
      ·cases j with
       | zero=>exact hc
       | succ j=>simp at hc
     ·rw [c.rv_arg γ w args p j hj hP,hgu,show cellAt u j=uv by simp [cellAt,List.getD,huv]]
      exact hrc
   | _=>simp [acl] at hj'
  ·omega
 ·omega
theorem alias_ok {c:CallI} {args:List Value} (h:c.Ent X S γ w args) {K:List Nat} {O:OM} {w1:World} {d:Nat} {y:Rc} {v:Value} {ks:List Nat}
  (hy:RelRc X (entry c.g c.ar.acs c.vin).lk (c.gh X γ w args) K O w1 d y v ks) {x:Cv} (hx:aliasC c.avs y=some x):ks=[]/\RelC S.lk γ x v:=by
 cases y with
 | c y=>simp [aliasC] at hx
 | m y=>simp [aliasC] at hx
 | un=>simp only [aliasC,Option.some.injEq] at hx; subst hx; exact hy
 | aw p j =>
  obtain ⟨rfl,row,hj,hlt,hr,rfl⟩:=hy
  obtain ⟨cc,h1,h2,_⟩:=h.argc hj hlt hr
  simp only [aliasC] at hx
  rw [h1] at hx; cases hx
  exact ⟨rfl,h2⟩
 | al p j e cc =>
  obtain ⟨rfl,row,τ,ys,hj,hlt,hr,he,hc,hv⟩:=hy
  obtain ⟨c1,h1,h2,h3⟩:=h.argc hj hlt hr
  have hpre:=h.pre.rel.rs _ row hr
  obtain ⟨u',hu',hcell⟩:=hpre.cel e cc _ he hc
  have hcv:(c.gh X γ w args).cv (100000+p*64+j)=c.cv X γ w args (100000+p*64+j):=rfl
  rw [hv] at hu'; cases hu'
  have hone:v.oneCell'=true:=hcell.2.slF.slcV.one
  have hvw:=ct_l_vw h3
  refine ⟨rfl,?_⟩
  simp only [aliasC,h1] at hx
  cases c1 with
  | sw r =>
   simp only [Option.some.injEq] at hx; subst hx
   simp only [Lk.vw] at hvw
   cases hrr:c.m.r r with
   | none=>simp [hrr,Vw.ct] at hvw
   | some row2 =>
    simp only [hrr,Vw.ct,Option.some.injEq,Ct.l.injEq] at hvw
    obtain ⟨e1,e2⟩:=hvw
    obtain ⟨τ1,xs1,ow1⟩:=row
    obtain ⟨τ2,xs2,ow2⟩:=row2
    simp only at e1 e2
    subst e1
    have e2:=eq_of_heq e2
    subst e2
    have hr2:=h.le.r r _ hrr
    have hval:c.rv γ w args (100000+p*64+j)=γ.rv r:=h2.2
    have htop:=hpre.top.slF
    have htop2:=(h.rel.rs r _ hr2).top.slF
    have hcs:(c.gh X γ w args).cv (100000+p*64+j)=γ.cv r:=by
     have hrv':(c.gh X γ w args).rv (100000+p*64+j)=γ.rv r:=hval
     rw [hrv'] at htop
     exact slF_uniq htop htop2
    exact ⟨_,τ,ys,hr2,he,hc,by rw [← hcs]; exact hv⟩
  | sl r off n =>
   simp only [Option.some.injEq] at hx; subst hx
   simp only [Lk.vw] at hvw
   cases hrr:c.m.r r with
   | none=>simp [hrr,Vw.ct] at hvw
   | some row2 =>
    simp only [hrr,Vw.ct,Option.some.injEq,Ct.l.injEq] at hvw
    obtain ⟨e1,e2⟩:=hvw
    obtain ⟨τ1,xs1,ow1⟩:=row
    obtain ⟨τ2,xs2,ow2⟩:=row2
    simp only at e1 e2
    subst e1
    have e2:=eq_of_heq e2
    subst e2
    have hr2:=h.le.r r _ hrr
    obtain ⟨row',hr',hle,hsub⟩:=h2
    rw [hr2] at hr'; cases hr'
    have htop:=hpre.top.slF
    have htop2:=(h.rel.rs r _ hr2).top.slF.sub hle hsub
    have hl:=sub_length xs2 hle
    simp only at htop he hc hv htop2 hle
    rw [hl] at htop he
    have hcs:(c.gh X γ w args).cv (100000+p*64+j)=((γ.cv r).drop (off*sz τ2)).take (n*sz τ2):=slF_uniq htop htop2
    rw [hcs] at hv
    have hc1:(cells τ2 ((sub xs2 off n).getD e (dflt τ2)))[cc]? =some (.l τ ys):=hc
    rw [sub_getD xs2 _ he] at hc1
    have hc':cc<sz τ2:=by
     have:=(List.getElem?_eq_some_iff.1 hc1).1
     rwa [cells_length] at this
    have hlt2:e*sz τ2+cc<n*sz τ2:=by
     have:=Nat.mul_le_mul_right (sz τ2) (show e+1<=n from he)
     rw [Nat.add_mul] at this; omega
    rw [List.getElem?_take,if_pos hlt2,List.getElem?_drop] at hv
    refine ⟨_,τ,ys,hr2,by simp only; omega,hc1,?_⟩
    show (γ.cv r)[(off+e)*sz τ2+cc]? =some v
    rw [← hv]; congr 1; rw [Nat.add_mul]; omega
  | _=>simp only [Option.some.injEq] at hx; subst hx; exact hone
theorem rcsN_len:∀ (l:List Rc),rcsN l=l.length
 | []=>rfl
 | _::l=>by simp [rcsN,rcsN_len l]
theorem flatC_rel {m':Lk} {y:Ct} {x:Cv} (h:flatC y=some x) {v:Value} (hv:(y= .u/\v.oneCell'=true)\/(y≠ .u/\v=ctVal y)):RelC m' γ' x v:=by
 cases y with
 | l τ xs=>simp [flatC] at h
 | u =>
  simp only [flatC,Option.some.injEq] at h; subst h
  rcases hv with ⟨_,h⟩ | ⟨h,_⟩
  ·exact h
  ·exact absurd rfl h
 | _ =>
  simp only [flatC,Option.some.injEq] at h; subst h
  rcases hv with ⟨h,_⟩ | ⟨_,h⟩
  ·cases h
  ·exact h
def ResOk (X:Ctx) (S:St) (γ:Gh) (I:Prop) (A:Nat->Prop) (O:OM) (w1:World) (f:Cv->Cv) (k n:Nat) (ks:List Nat) (rs:List (Nat×Row)) (Q:Lk->Gh->Prop):Prop :=
 ∃ V G,keys G=ks/\NewRows X I A O w1 rs V G/\(∀ x∈keys rs,k<=x/\x<k+n) /\
  ∀ m' γ',Fits m' γ' rs V->(∀ x v,RelC S.lk γ x v->RelC m' γ' (f x) v)->Q m' γ'
theorem resCs_ok {c:CallI} {args:List Value} (h:c.Ent X S γ w args) {K:List Nat} {O:OM} {w1:World} {f:Cv->Cv} {ms:List Nat} {ys:List Rc} {us:List Value} {ks:List Nat}
  (hr:RelRcs X (entry c.g c.ar.acs c.vin).lk (c.gh X γ w args) K O w1 ms ys us ks):∀ {k:Nat} {cs:List Cv} {rs:List (Nat×Row)},resCs f c.avs c.ar.imm k ms ys=some (cs,rs) ->
  ResOk X S γ (c.ar.imm=true) (fun g=>∃ r,r∉K/\Fam r (O g)) O w1 f k ys.length ks rs fun m' γ'=>RelL m' γ' cs us:=by
 induction hr with
 | nil =>
  intro k cs rs h
  simp only [resCs,Option.some.injEq,Prod.mk.injEq] at h; obtain ⟨rfl,rfl⟩:=h
  exact ⟨[],[],rfl,.nil,by simp [keys],fun _ _ _ _=> .nil⟩
 | cons hy _ ih =>
  rename_i ms y v k1 ys vs ks _
  intro k cs rs hres
  simp only [resCs] at hres
  cases hrest:resCs f c.avs c.ar.imm (k+1) (tl ms) ys with
  | none=>simp [hrest] at hres
  | some p =>
   obtain ⟨cs',rs'⟩:=p
   simp only [hrest] at hres
   obtain ⟨V,G,hG,hN,hK,hQ⟩:=ih hrest
   have lift:∀ x∈keys rs',k<=x/\x<k+(ys.length+1):=fun x hx=>by have:=hK x hx; omega
   have plain:∀ (x:Cv),k1=[]->cs=x::cs'->rs=rs'->(∀ m' γ',(∀ x v,RelC S.lk γ x v->RelC m' γ' (f x) v)->RelC m' γ' x v) ->
     ResOk X S γ (c.ar.imm=true) (fun g=>∃ r,r∉K/\Fam r (O g)) O w1 f k (ys.length+1) (k1++ks) rs fun m' γ'=>RelL m' γ' cs (v::vs):=by
    rintro x rfl rfl rfl hx
    exact ⟨V,G,by simpa using hG,hN,lift,fun m' γ' hF hk=> .cons (hx m' γ' hk) (hQ m' γ' hF hk)⟩
   cases y with
   | m y =>
    obtain ⟨rfl,hone,hvis⟩:=hy
    cases y with
    | l τ xs =>
     simp only at hres
     cases hi:c.ar.imm with
     | true =>
      simp only [hi,Option.some.injEq,Prod.mk.injEq] at hres
      obtain ⟨rfl,rfl⟩:=hres
      obtain ⟨cv,hvis⟩:=hvis
      refine ⟨(k,(v,cv))::V,G,by simpa using hG,.imm rfl hvis (by rw [hi] at hN; exact hN),fun x hx=> ?_,fun m' γ' hF hk=> .cons hF.head (hQ m' γ' hF.tail hk)⟩
      simp only [keys,List.mem_cons] at hx
      rcases hx with rfl | hx
      ·simp
      ·exact lift x hx
     | false =>
      simp only [hi,Option.some.injEq,Prod.mk.injEq] at hres
      rw [← hi]
      exact plain .un rfl hres.1.symm hres.2.symm (fun _ _ _=>hone)
    | u =>
     simp only [flatC,Option.some.injEq,Prod.mk.injEq] at hres
     exact plain _ rfl hres.1.symm hres.2.symm (fun _ _ _=>hone)
    | b x =>
     simp only [flatC,Option.some.injEq,Prod.mk.injEq] at hres
     exact plain _ rfl hres.1.symm hres.2.symm (fun _ _ _=>hvis)
    | i a n =>
     simp only [flatC,Option.some.injEq,Prod.mk.injEq] at hres
     exact plain _ rfl hres.1.symm hres.2.symm (fun _ _ _=>hvis)
    | s x =>
     simp only [flatC,Option.some.injEq,Prod.mk.injEq] at hres
     exact plain _ rfl hres.1.symm hres.2.symm (fun _ _ _=>hvis)
   | c y =>
    cases y with
    | l τ xs =>
     simp only [Option.some.injEq,Prod.mk.injEq] at hres
     obtain ⟨rfl,rfl⟩:=hres
     obtain ⟨hd3,hnew⟩:=hy
     have hkk:∀ x∈keys ((k,(⟨τ,xs,w5 (hd ms)⟩:Row))::rs'),k<=x/\x<k+(ys.length+1):=fun x hx=>by
      simp only [keys,List.mem_cons] at hx
      rcases hx with rfl | hx
      ·simp
      ·exact lift x hx
     rcases hnew with ⟨rfl,rfl,rfl⟩ | ⟨key,cv,rfl,hrow⟩
     ·exact ⟨(k,(.slice none 0 0,[]))::V,G,by simpa using hG,.emp hN,hkk,fun m' γ' hF hk=> .cons hF.head (hQ m' γ' hF.tail hk)⟩
     ·have hd3:hdK (hd ms)=true:=hd3.resolve_right (by simp)
      have hw:w5 (hd ms)=hd ms:=by rcases hdK_cases hd3 with h | h | h<;>rw [h]<;>rfl
      rw [hw] at hkk ⊢
      exact ⟨(k,(v,cv))::V,(key,(k,hd ms))::G,by simp [keys,hG],.own hrow (hdK_cases hd3) hN,hkk,fun m' γ' hF hk=> .cons hF.head (hQ m' γ' hF.tail hk)⟩
    | u =>
     simp only [flatC,Option.some.injEq,Prod.mk.injEq] at hres
     exact plain _ hy.1 hres.1.symm hres.2.symm (fun _ _ _=>hy.2)
    | b x =>
     simp only [flatC,Option.some.injEq,Prod.mk.injEq] at hres
     exact plain _ hy.1 hres.1.symm hres.2.symm (fun _ _ _=>hy.2)
    | i a n =>
     simp only [flatC,Option.some.injEq,Prod.mk.injEq] at hres
     exact plain _ hy.1 hres.1.symm hres.2.symm (fun _ _ _=>hy.2)
    | s x =>
     simp only [flatC,Option.some.injEq,Prod.mk.injEq] at hres
     exact plain _ hy.1 hres.1.symm hres.2.symm (fun _ _ _=>hy.2)
   | al p j e cc =>
    simp only at hres
    cases ha:aliasC c.avs (.al p j e cc) with
    | none=>simp [ha] at hres
    | some x =>
     simp only [ha,Option.some.injEq,Prod.mk.injEq] at hres
     obtain ⟨h1,h2⟩:=alias_ok h hy ha
     exact plain _ h1 hres.1.symm hres.2.symm (fun _ _ hk=>hk x v h2)
   | aw p j =>
    simp only at hres
    cases ha:aliasC c.avs (.aw p j) with
    | none=>simp [ha] at hres
    | some x =>
     simp only [ha,Option.some.injEq,Prod.mk.injEq] at hres
     obtain ⟨h1,h2⟩:=alias_ok h hy ha
     exact plain _ h1 hres.1.symm hres.2.symm (fun _ _ hk=>hk x v h2)
   | un =>
    simp only at hres
    cases ha:aliasC c.avs .un with
    | none=>simp [ha] at hres
    | some x =>
     simp only [ha,Option.some.injEq,Prod.mk.injEq] at hres
     obtain ⟨h1,h2⟩:=alias_ok h hy ha
     exact plain _ h1 hres.1.symm hres.2.symm (fun _ _ hk=>hk x v h2)
theorem resTs_ok {c:CallI} {args:List Value} (h:c.Ent X S γ w args) {K:List Nat} {O:OM} {w1:World} {f:Cv->Cv} {ms:List (List Nat)} {ys:List (Bool×List Rc)} {us:List Value} {ks:List Nat}
  (hr:RelRts X (entry c.g c.ar.acs c.vin).lk (c.gh X γ w args) K O w1 ms ys us ks):∀ {k:Nat} {ts:List (Bool×List Cv)} {rs:List (Nat×Row)},resTs f c.avs c.ar.imm k ms ys=some (ts,rs) ->
  ResOk X S γ (c.ar.imm=true) (fun g=>∃ r,r∉K/\Fam r (O g)) O w1 f k (rtsN ys) ks rs fun m' γ'=>RelTs m' γ' ts us:=by
 induction hr with
 | nil =>
  intro k cs rs h
  simp only [resTs,Option.some.injEq,Prod.mk.injEq] at h; obtain ⟨rfl,rfl⟩:=h
  exact ⟨[],[],rfl,.nil,by simp [keys],fun _ _ _ _=> .nil⟩
 | cons hy hb1 hb2 _ ih =>
  rename_i ms b l us v k1 ys vs ks _
  intro k ts rs hres
  simp only [resTs] at hres
  cases h1:resCs f c.avs c.ar.imm k (hdL ms) l with
  | none=>simp [h1] at hres
  | some p =>
   cases h2:resTs f c.avs c.ar.imm (k+l.length) (tl ms) ys with
   | none=>simp [h1,h2] at hres
   | some q =>
    obtain ⟨cs1,rs1⟩:=p
    obtain ⟨ts2,rs2⟩:=q
    simp only [h1,h2,Option.some.injEq,Prod.mk.injEq] at hres
    obtain ⟨rfl,rfl⟩:=hres
    obtain ⟨V1,G1,g1,n1,k1',q1⟩:=resCs_ok h hy h1
    obtain ⟨V2,G2,g2,n2,k2',q2⟩:=ih h2
    refine ⟨V1++V2,G1++G2,by rw [keys_append,g1,g2],n1.append n2,fun x hx=> ?_,fun m' γ' hF hk=> .cons ⟨us,q1 m' γ' hF.left hk,hb1,hb2⟩ (q2 m' γ' hF.right hk)⟩
    rw [keys_append,List.mem_append] at hx
    simp only [rtsN,rcsN_len]
    rcases hx with hx | hx
    ·have:=k1' x hx; omega
    ·have:=k2' x hx; omega
theorem upK_mem:∀ (n k x:Nat),x∈upK k n↔k<=x/\x<k+n
 | 0,k,x=>by simp [upK]
 | n+1,k,x=>by simp only [upK,List.mem_cons,upK_mem n (k+1) x]; omega
theorem CallI.Ok.own {c:CallI} (h:c.Ok):keys (hVars c.m 0 c.g.vl c.ar.κ)=c.ow/\∀ (k v:Nat),c.ar.κ[k]? =some v->∃ cs,c.m.v v=some cs/\∀ j cc,cs[j]? =some cc ->
  OwnV c.m (·∈c.b) (fun r x d=>(r,(x,d))∈hVars c.m 0 c.g.vl c.ar.κ) (300000+k*64+j) (md (mdL c.g.vl k) j) cc:=by
 have hh:=h.hand
 simp only [Lk.handed] at hh
 cases ho:c.m.ownRowsOf c.g.vl c.ar.κ with
 | none=>simp [ho] at hh
 | some p =>
  obtain ⟨ow,b⟩:=p
  have hb:ow=c.ow/\b=c.b:=by
   simp only [ho] at hh
   revert hh; split
   ·intro hh; simp only [Option.some.injEq,Prod.mk.injEq] at hh; exact hh
   ·intro hh; cases hh
  obtain ⟨h1,h2⟩:=ownRowsOf_inv (k0:=0) ho
  rw [hb.1] at h1
  rw [hb.2] at h2
  refine ⟨h1,fun k v hk=> ?_⟩
  obtain ⟨cs,h3,h4⟩:=h2 k v hk
  refine ⟨cs,h3,fun j cc hc=> ?_⟩
  have:=h4 j cc hc
  rwa [Nat.zero_add] at this
theorem homes_mem (v:Nat):∀ (cs:List Cv) (j x:Nat),x∈homes v j cs↔∃ i,i<cs.length/\x=1000000+v*64+j+i
 | [],j,x=>by simp [homes]
 | c::cs,j,x=>by
  simp only [homes,List.mem_cons,homes_mem v cs (j+1) x,List.length_cons]
  constructor
  ·rintro (rfl | ⟨i,h1,rfl⟩)
   ·exact ⟨0,by omega,by omega⟩
   ·exact ⟨i+1,by omega,by omega⟩
  ·rintro ⟨i,h1,rfl⟩
   cases i with
   | zero=>left; omega
   | succ i=>exact .inr ⟨i,by omega,by omega⟩
theorem homesOf_mem:∀ {κ:List Nat} {v x:Nat} {cs:List Cv},v∈κ->m.v v=some cs->x∈homes v 0 cs->x∈m.homesOf κ
 | [],v,x,cs,h,_,_=>by simp at h
 | u::κ,v,x,cs,h,hv,hx=>by
  simp only [Lk.homesOf,List.mem_append]
  rcases List.mem_cons.1 h with rfl | h
  ·left; rw [hv]; exact hx
  ·exact .inr (homesOf_mem h hv hx)
theorem homesOf_ge:∀ {κ:List Nat} {x:Nat},x∈m.homesOf κ->1000000<=x
 | [],x,h=>by simp [Lk.homesOf] at h
 | u::κ,x,h=>by
  simp only [Lk.homesOf,List.mem_append] at h
  rcases h with h | h
  ·cases hu:m.v u with
   | none=>rw [hu] at h; simp at h
   | some cs=>rw [hu] at h; obtain ⟨i,_,rfl⟩:=(homes_mem u cs 0 x).1 h; omega
  ·exact homesOf_ge h
theorem cellsNew_ok {I:Prop} {A:Nat->Prop} {γ0:Gh} {O:OM} {w1:World} {f:Cv->Cv} {v key:Nat} {ms:List Nat} {ys:List Ct} {us:List Value} {ks:List Nat} (hr:RelVcs X γ0 O w1 key ms ys us ks) :
  ∀ {j:Nat} {cs cs':List Cv} {rs:List (Nat×Row)},cellsNew f v j ms cs ys=some (cs',rs)->(∀ (i:Nat) (cc:Cv),cs[i]? =some cc->md ms i=1->RelC S.lk γ cc (γ0.rv (key+i))) ->
   ∃ V G,keys G=ks/\NewRows X I A O w1 rs V G/\(∀ x∈keys rs,(∃ i,cs[i]? =some (.sw x)/\md ms i≠0/\md ms i≠1)\/∃ i,i<cs.length/\x=1000000+v*64+j+i) /\
    (∀ p∈rs,hdK p.2.ow=true) /\
    ∀ m' γ',Fits m' γ' rs V->(∀ x v,RelC S.lk γ x v->RelC m' γ' (f x) v)->RelL m' γ' cs' us:=by
 induction hr with
 | nil =>
  intro j cs cs' rs h _
  cases cs with
  | nil=>simp only [cellsNew,Option.some.injEq,Prod.mk.injEq] at h; obtain ⟨rfl,rfl⟩:=h; exact ⟨[],[],rfl,.nil,by simp [keys],by simp,fun _ _ _ _=> .nil⟩
  | cons=>simp [cellsNew] at h
 | cons hy _ ih =>
  rename_i key ms y u a ys us ks _
  intro j cs cs' rs h hone
  cases cs with
  | nil=>simp [cellsNew] at h
  | cons c cs =>
   simp only [cellsNew] at h
   cases hrest:cellsNew f v (j+1) (tl ms) cs ys with
   | none=>simp [hrest] at h
   | some p =>
    obtain ⟨cs2,rs2⟩:=p
    simp only [hrest] at h
    obtain ⟨V,G,hG,hN,hK,hO,hQ⟩:=ih hrest (fun i cc hc hm=>by rw [md_tl] at hm; have:=hone (i+1) cc (by simpa using hc) hm; rwa [show key+(i+1)=key+1+i by omega] at this)
    have lift:∀ x∈keys rs2,(∃ i,(c::cs)[i]? =some (.sw x)/\md ms i≠0/\md ms i≠1)\/∃ i,i<(c::cs).length/\x=1000000+v*64+j+i:=by
     intro x hx
     rcases hK x hx with ⟨i,h1,h2,h3⟩ | ⟨i,h1,h2⟩
     ·exact .inl ⟨i+1,by simpa using h1,by rwa [md_tl] at h2,by rwa [md_tl] at h3⟩
     ·exact .inr ⟨i+1,by simp; omega,by omega⟩
    have plain:∀ x,a=[]->cs'=x::cs2->rs=rs2->(∀ m' γ',(∀ x v,RelC S.lk γ x v->RelC m' γ' (f x) v)->RelC m' γ' x u) ->
      ∃ V G,keys G=a++ks/\NewRows X I A O w1 rs V G/\(∀ x∈keys rs,(∃ i,(c::cs)[i]? =some (.sw x)/\md ms i≠0/\md ms i≠1)\/∃ i,i<(c::cs).length/\x=1000000+v*64+j+i) /\
       (∀ p∈rs,hdK p.2.ow=true)/\∀ m' γ',Fits m' γ' rs V->(∀ x v,RelC S.lk γ x v->RelC m' γ' (f x) v)->RelL m' γ' cs' (u::us):=by
     rintro x rfl rfl rfl hx
     exact ⟨V,G,by simpa using hG,hN,lift,hO,fun m' γ' hF hk=> .cons (hx m' γ' hk) (hQ m' γ' hF hk)⟩
    have h012:hd ms=0\/hd ms=1\/∃ n,hd ms=n+2:=by
     rcases hn:hd ms with _ | _ | n
     ·exact .inl rfl
     ·exact .inr (.inl rfl)
     ·exact .inr (.inr ⟨n,rfl⟩)
    rcases h012 with h0 | h1 | ⟨n,hn2⟩
    ·simp only [RelVc,h0] at hy h
     obtain ⟨rfl,rfl,hfl⟩:=hy
     cases hf:flatC y with
     | none=>simp [hf] at h
     | some x =>
      simp only [hf,Option.some.injEq,Prod.mk.injEq] at h
      refine plain x rfl h.1.symm h.2.symm (fun m' γ' _=>flatC_rel hf (.inr ⟨?_,rfl⟩))
      rintro rfl; exact hfl
    ·simp only [RelVc,h1] at hy h
     simp only [Option.some.injEq,Prod.mk.injEq] at h
     obtain ⟨rfl,rfl⟩:=hy
     have:=hone 0 c rfl h1
     rw [Nat.add_zero] at this
     exact plain (f c) rfl h.1.symm h.2.symm (fun m' γ' hk=>hk c _ this)
    ·simp only [RelVc,hn2] at hy h
     rw [← hn2] at hy
     cases y with
     | l τ xs =>
      simp only at h hy
      obtain ⟨hd3,hnew⟩:=hy
      have hm0:md ms 0≠0/\md ms 0≠1:=by
       rcases hdK_cases hd3 with h | h | h<;>rw [md_zero,h]<;>decide
      have fin:∀ (kk:Nat),cs'= .sw kk::cs2->rs=(kk,(⟨τ,xs,hd ms⟩:Row))::rs2->((c= .sw kk)\/kk=1000000+v*64+j) ->
        ∃ V G,keys G=a++ks/\NewRows X I A O w1 rs V G/\(∀ x∈keys rs,(∃ i,(c::cs)[i]? =some (.sw x)/\md ms i≠0/\md ms i≠1)\/∃ i,i<(c::cs).length/\x=1000000+v*64+j+i) /\
         (∀ p∈rs,hdK p.2.ow=true)/\∀ m' γ',Fits m' γ' rs V->(∀ x v,RelC S.lk γ x v->RelC m' γ' (f x) v)->RelL m' γ' cs' (u::us):=by
       rintro kk rfl rfl hkk
       have hK':∀ x∈keys ((kk,(⟨τ,xs,hd ms⟩:Row))::rs2),(∃ i,(c::cs)[i]? =some (.sw x)/\md ms i≠0/\md ms i≠1)\/∃ i,i<(c::cs).length/\x=1000000+v*64+j+i:=by
        intro x hx
        simp only [keys,List.mem_cons] at hx
        rcases hx with rfl | hx
        ·rcases hkk with rfl | rfl
         ·exact .inl ⟨0,rfl,hm0⟩
         ·exact .inr ⟨0,by simp,by omega⟩
        ·exact lift x hx
       have hO':∀ p∈(kk,(⟨τ,xs,hd ms⟩:Row))::rs2,hdK p.2.ow=true:=by
        intro p hp
        rcases List.mem_cons.1 hp with rfl | hp
        ·exact hd3
        ·exact hO p hp
       rcases hnew with ⟨rfl,rfl,rfl⟩ | ⟨k1,cv,rfl,hrow⟩
       ·exact ⟨(kk,(.slice none 0 0,[]))::V,G,by simpa using hG,.emp hN,hK',hO',fun m' γ' hF hk=> .cons hF.head (hQ m' γ' hF.tail hk)⟩
       ·exact ⟨(kk,(u,cv))::V,(k1,(kk,hd ms))::G,by simp [keys,hG],.own hrow (hdK_cases hd3) hN,hK',hO',fun m' γ' hF hk=> .cons hF.head (hQ m' γ' hF.tail hk)⟩
      rw [← hn2] at h
      revert h; split
      ·intro h; simp only [Option.some.injEq,Prod.mk.injEq] at h; exact fin _ h.1.symm h.2.symm (.inl rfl)
      ·intro h; simp only [Option.some.injEq,Prod.mk.injEq] at h; exact fin _ h.1.symm h.2.symm (.inr rfl)
     | _=>simp at h
theorem tl_drop' {α:Type} (l:List α) (k:Nat):tl (l.drop k)=l.drop (k+1):=by
 have:∀ l:List α,tl l=l.drop 1:=by intro l; cases l<;>rfl
 rw [this,List.drop_drop]
theorem varsNew_ok {c:CallI} {args:List Value} (h:c.Ent X S γ w args) {I:Prop} {A:Nat->Prop} {O:OM} {w1:World} {f:Cv->Cv} {k0:Nat} {ms:List (List Nat)} {vo:List (List Ct)} {ks:List Nat}
  (hr:RelVo X (c.gh X γ w args) O w1 k0 ms vo ks):∀ {κ':List Nat} {vs:List (Nat×List Cv)} {rs:List (Nat×Row)},(∀ (i:Nat),κ'[i]? =c.ar.κ[k0+i]?)->ms=c.g.vl.drop k0->c.m.varsNew f ms κ' vo=some (vs,rs) ->
   ∃ V G,keys G=ks/\NewRows X I A O w1 rs V G/\keys vs=κ'/\(∀ x∈keys rs,(x∈c.ow/\notIo x=true)\/x∈c.m.homesOf c.ar.κ)/\(∀ p∈rs,hdK p.2.ow=true) /\
    ∀ m' γ',Fits m' γ' rs V->(∀ x v,RelC S.lk γ x v->RelC m' γ' (f x) v)->∀ v cs',(v,cs')∈vs ->
     ∃ (k:Nat) (cur:Array Value) (e:TypeId),c.ar.κ[k]? =some v/\O (γ.vb v)=some (.v k)/\w1.heap[γ.vb v]? =some (.cells cur e (0,0))/\RelL m' γ' cs' cur.toList:=by
 induction hr with
 | nil =>
  intro κ' vs rs hκ hms hv
  cases κ' with
  | nil=>simp only [Lk.varsNew,Option.some.injEq,Prod.mk.injEq] at hv; obtain ⟨rfl,rfl⟩:=hv; exact ⟨[],[],rfl,.nil,rfl,by simp [keys],by simp,fun _ _ _ _ v cs' hm=>by simp at hm⟩
  | cons=>simp [Lk.varsNew] at hv
 | cons hO1 hcur hcs _ ih =>
  rename_i k0 ms l a vo ks cur e _
  intro κ' vs rs hκ hms hv
  cases κ' with
  | nil=>simp [Lk.varsNew] at hv
  | cons v κ' =>
   simp only [Lk.varsNew] at hv
   cases hmv:c.m.v v with
   | none=>simp [hmv] at hv
   | some cs =>
    cases h1:cellsNew f v 0 (hdL ms) cs l with
    | none=>simp [hmv,h1] at hv
    | some p =>
     cases h2:c.m.varsNew f (tl ms) κ' vo with
     | none=>simp [hmv,h1,h2] at hv
     | some q =>
      obtain ⟨a1,r1⟩:=p
      obtain ⟨b1,q1⟩:=q
      simp only [hmv,h1,h2,Option.some.injEq,Prod.mk.injEq] at hv
      obtain ⟨rfl,rfl⟩:=hv
      have hkv:c.ar.κ[k0]? =some v:=by have:=hκ 0; simpa using this.symm
      have hvb:(c.gh X γ w args).vb k0=γ.vb v:=by show γ.vb (c.ar.κ.getD k0 0)=_; simp [List.getD,hkv]
      rw [hvb] at hO1 hcur
      obtain ⟨hown1,hown2⟩:=h.ok.own
      obtain ⟨cs2,hcs2,hov⟩:=hown2 k0 v hkv
      rw [hmv] at hcs2; cases hcs2
      have hml:hdL ms=mdL c.g.vl k0:=by rw [hms]; rfl
      obtain ⟨_,cur0,e0,hcur0,hrl0⟩:=h.rel.vs v cs (h.le.v _ _ hmv)
      obtain ⟨cs3,_,hcs3,_,_,h63⟩:=(vins_inv h.ok.vins).2 k0 v hkv
      rw [hmv] at hcs3; cases hcs3
      obtain ⟨V1,G1,g1,n1,k1,o1,q1'⟩:=cellsNew_ok (S:=S) (γ:=γ) (I:=I) (A:=A) hcs h1 (fun i cc hc _=>by
       obtain ⟨uv,huv,hrc⟩:=hrl0.get hc
       have:(c.gh X γ w args).rv (300000+k0*64+i)=uv:=by
        show c.rv γ w args (300000+k0*64+i)=uv
        have hil:i<64:=by have:=(List.getElem?_eq_some_iff.1 hc).1; omega
        rw [c.rv_var γ w args k0 i v hil hkv hcur0]; simp only [List.getD,huv]; rfl
       rw [this]; exact hrc)
      obtain ⟨V2,G2,g2,n2,k2,k2',o2,q2⟩:=ih (fun i=>by have:=hκ (i+1); rw [List.getElem?_cons_succ] at this; rw [this]; congr 1; omega) (by rw [hms,tl_drop']) h2
      refine ⟨V1++V2,G1++G2,by rw [keys_append,g1,g2],n1.append n2,by simp [keys,k2],fun x hx=> ?_,fun p hp=> ?_,fun m' γ' hF hk u cs' hm=> ?_⟩
      ·rw [keys_append,List.mem_append] at hx
       rcases hx with hx | hx
       ·rcases k1 x hx with ⟨i,e1,e2,e3⟩ | ⟨i,e1,e2⟩
        ·rw [hml] at e2 e3
         rcases hov i _ e1 with ⟨hd,_⟩ | ⟨_,⟨r,row,e4,_,_,e5,e6⟩ | ⟨σ,e4⟩⟩
         ·rcases hd with hd | hd
          ·exact absurd hd e2
          ·exact absurd hd e3
         ·cases e4
          exact .inl ⟨by rw [← hown1]; exact mem_keys e6,e5⟩
         ·cases e4
        ·exact .inr (homesOf_mem (List.mem_of_getElem? hkv) hmv ((homes_mem v cs 0 x).2 ⟨i,e1,e2⟩))
       ·exact k2' x hx
      ·rcases List.mem_append.1 hp with hp | hp
       ·exact o1 p hp
       ·exact o2 p hp
      ·rcases List.mem_cons.1 hm with hm | hm
       ·cases hm
        exact ⟨k0,cur,e,hkv,hO1,hcur,q1' m' γ' hF.left hk⟩
       ·exact q2 m' γ' hF.right hk u cs' hm
theorem hCs_nosw (key d:Nat):∀ (cs:List Cv) (j:Nat),(∀ r,Cv.sw r∉cs)->hCs key d j cs=[]
 | [],j,_=>rfl
 | c::cs,j,h=>by
  have:=hCs_nosw key d cs (j+1) (fun r hr=>h r (List.mem_cons_of_mem _ hr))
  cases c<;>simp only [hCs]<;>first | exact this | exact absurd List.mem_cons_self (h _)
theorem ioNew_ok {c:CallI} {args:List Value} (h:c.Ent X S γ w args) {I:Prop} {A:Nat->Prop} {O:OM} {w1:World} {p:Nat} {acs:List AC} {ys:List Ct} {ks:List Nat}
  (hr:RelIo X (c.gh X γ w args) O w1 p acs ys ks):∀ {avs:List AV} {r2:List (Nat×Row)},(∀ (i:Nat),acs[i]? =c.ar.acs[p+i]?)->(∀ (i:Nat),avs[i]? =c.avs[p+i]?)->acs.length=avs.length ->
   c.m.ioNew (keys (hIo (c.g.am.drop p) p avs)) ys=some r2 ->
   ∃ V G,keys G=ks/\NewRows X I A O w1 r2 V G/\(∀ p∈r2,p.2.ow=5)/\∀ k v cs,(k,(v,cs))∈V->v=γ.rv k:=by
 induction hr with
 | nil =>
  intro avs r2 _ _ hl hio
  cases avs with
  | cons=>simp at hl
  | nil=>simp only [hIo,keys,Lk.ioNew,Option.some.injEq] at hio; subst hio; exact ⟨[],[],rfl,.nil,by simp,by simp⟩
 | io hrow _ ih =>
  rename_i p τ xs xs' cs l ys ks _
  intro avs r2 hacs havs hl hio
  cases avs with
  | nil=>simp at hl
  | cons v avs =>
   have hx:c.ar.acs[p]? =some (.io τ xs):=by have:=hacs 0; simpa using this.symm
   have hv0:c.avs[p]? =some v:=by have:=havs 0; simpa using this.symm
   obtain ⟨v',u,hv,hu,hgu,hrv,hP,hA⟩:=h.arg hx
   rw [hv0] at hv; cases hv
   cases hA with
   | val h1=>rcases h1 with ⟨_,h⟩ | ⟨_,_,_,h,_⟩<;>cases h
   | io h0 h9 hmr hH =>
    rename_i r
    have h9':hd (c.g.am.drop p)=9:=h9
    simp only [hIo,h9',is9,avl,hCs,keys_append,tl_drop'] at hio
    simp only [keys,List.singleton_append,List.cons_append,List.nil_append,Lk.ioNew,hmr] at hio
    cases hrest:c.m.ioNew (keys (hIo (c.g.am.drop (p+1)) (p+1) avs)) ys with
    | none=>simp [hrest] at hio
    | some q =>
     simp only [hrest,tEq_self,Option.some.injEq] at hio; subst hio
     obtain ⟨V,G,hG,hN,h5,hV⟩:=ih (fun i=>by have:=hacs (i+1); rw [List.getElem?_cons_succ] at this; rw [this]; congr 1; omega)
      (fun i=>by have:=havs (i+1); rw [List.getElem?_cons_succ] at this; rw [this]; congr 1; omega) (by simpa using hl) hrest
     have hval:(c.gh X γ w args).rv (200000+p*64)=γ.rv r:=by
      show c.rv γ w args (200000+p*64)=_
      rw [c.rv_io γ w args p hP,hgu]; exact hrv.2
     rw [hval] at hrow
     refine ⟨(r,(γ.rv r,cs))::V,(200000+p*64,(r,5))::G,by simp [keys,hG],.own hrow (.inr (.inr rfl)) hN,fun q hq=> ?_,fun k v' cs' hm=> ?_⟩
     ·rcases List.mem_cons.1 hq with rfl | hq
      ·rfl
      ·exact h5 q hq
     ·rcases List.mem_cons.1 hm with hm | hm
      ·cases hm; rfl
      ·exact hV k v' cs' hm
 | skip hne _ ih =>
  rename_i p x l ys ks _
  intro avs r2 hacs havs hl hio
  cases avs with
  | nil=>simp at hl
  | cons v avs =>
   have hx:c.ar.acs[p]? =some x:=by have:=hacs 0; simpa using this.symm
   have hv0:c.avs[p]? =some v:=by have:=havs 0; simpa using this.symm
   obtain ⟨v',u,hv,hu,hgu,hrv,hP,hA⟩:=h.arg hx
   rw [hv0] at hv; cases hv
   have hsame:hIo (c.g.am.drop p) p (v::avs)=hIo (c.g.am.drop (p+1)) (p+1) avs:=by
    simp only [hIo,tl_drop']
    cases h9:is9 (hd (c.g.am.drop p)) with
    | false=>rfl
    | true =>
     have hd9:md c.g.am p=9:=by
      have:hd (c.g.am.drop p)=9:=by
       revert h9; unfold is9; split
       ·rename_i h; exact fun _=>h
       ·simp
      exact this
     have hno:hCs (200000+p*64) 5 0 (avl v)=[]:=by
      cases hA with
      | ptr _ _=>exact hCs_nosw _ _ _ _ (by simp [avl])
      | fn _ _ _=>exact hCs_nosw _ _ _ _ (by simp [avl])
      | val h1 h2 h3 h4 =>
       exfalso
       rw [hd9] at h4
       rcases h4 with ⟨h,_⟩ | ⟨h,_⟩ | ⟨h,_⟩
       ·cases h
       ·cases h
       ·simp [hdK] at h
      | io h0 h1 h2 h3=>exact absurd rfl (hne _ _)
      | al h0 h8 h1 h2 h3=>rw [hd9] at h8; cases h8
     rw [hno]; rfl
   rw [hsame] at hio
   exact ih (fun i=>by have:=hacs (i+1); rw [List.getElem?_cons_succ] at this; rw [this]; congr 1; omega)
    (fun i=>by have:=havs (i+1); rw [List.getElem?_cons_succ] at this; rw [this]; congr 1; omega) (by simpa using hl) hio
end Go.Soft
namespace Go.Soft
open Go
variable {X:Ctx} {m M:Lk} {γ γ':Gh} {w w':World} {ρ:Operand->Value} {S:St} {δ:Dl}
theorem resA_ok {c:CallI} {args:List Value} (h:c.Ent X S γ w args) {K:List Nat} {O:OM} {w1:World} {f:Cv->Cv} {d:Nat} {res:RC} {v:Value} {ks:List Nat}
  (hr:RelRes X (entry c.g c.ar.acs c.vin).lk (c.gh X γ w args) K O w1 c.g.rl res v ks) {av:AV} {rs:List (Nat×Row)} {vn:List (Nat×List Cv)} (hres:resA f c.avs c.ar.imm c.g.rl d res=some (av,rs,vn)) :
  ∃ V G,keys G=ks/\NewRows X (c.ar.imm=true) (fun g=>∃ r,r∉K/\Fam r (O g)) O w1 rs V G/\(∀ x∈keys rs,x∈res.keys d) /\
   ((vn=[]/\(∀ l,res≠ .np l)/\∀ m' γ',Fits m' γ' rs V->(∀ x v,RelC S.lk γ x v->RelC m' γ' (f x) v)->RelA m' γ' av v) \/
    ∃ (l:List Rc) (cs:List Cv) (cv g:Nat) (cur:Array Value) (e:TypeId),res= .np l/\vn=[(1000+d,cs)]/\av= .c (.pv (1000+d) 0)/\1000<=cv/\v= .pointer (some ⟨g,0,none⟩)/\O g=some (.v cv) /\
     w1.heap[g]? =some (.cells cur e (0,0))/\∀ m' γ',Fits m' γ' rs V->(∀ x v,RelC S.lk γ x v->RelC m' γ' (f x) v)->RelL m' γ' cs cur.toList):=by
 cases res with
 | u =>
  obtain ⟨rfl,rfl⟩:=hr
  simp only [resA,Option.some.injEq,Prod.mk.injEq] at hres
  obtain ⟨rfl,rfl,rfl⟩:=hres
  exact ⟨[],[],rfl,.nil,by simp [keys],.inl ⟨rfl,by simp,fun _ _ _ _=>⟨[],rfl,.nil⟩⟩⟩
 | c x =>
  simp only [resA] at hres
  cases h1:resCs f c.avs c.ar.imm (d*64) (hdL c.g.rl) [x] with
  | none=>simp [h1] at hres
  | some p =>
   obtain ⟨cs,rs1⟩:=p
   have hr1:RelRcs X (entry c.g c.ar.acs c.vin).lk (c.gh X γ w args) K O w1 (hdL c.g.rl) [x] [v] (ks++[]):= .cons hr .nil
   obtain ⟨V,G,g1,g2,g3,g4⟩:=resCs_ok h hr1 h1
   simp only [h1] at hres
   revert hres; split
   ·rename_i heq
    simp only [Option.some.injEq,Prod.mk.injEq] at heq
    obtain ⟨rfl,rfl⟩:=heq
    intro hres
    simp only [Option.some.injEq,Prod.mk.injEq] at hres
    obtain ⟨rfl,rfl,rfl⟩:=hres
    refine ⟨V,G,by simpa using g1,g2,fun y hy=> ?_,.inl ⟨rfl,by simp,fun m' γ' hF hk=> ?_⟩⟩
    ·have:=g3 y hy
     simp only [RC.keys,List.mem_singleton]
     simp at this; omega
    ·have:=g4 m' γ' hF hk
     cases this with
     | cons hx _=>exact RelA.of hx
   ·intro hres; cases hres
 | a l =>
  obtain ⟨us,rfl,hr⟩:=hr
  simp only [resA] at hres
  cases h1:resCs f c.avs c.ar.imm (d*64) (hdL c.g.rl) l with
  | none=>simp [h1] at hres
  | some p =>
   obtain ⟨cs,rs1⟩:=p
   simp only [h1,Option.some.injEq,Prod.mk.injEq] at hres
   obtain ⟨rfl,rfl,rfl⟩:=hres
   obtain ⟨V,G,g1,g2,g3,g4⟩:=resCs_ok h hr h1
   refine ⟨V,G,g1,g2,fun y hy=> ?_,.inl ⟨rfl,by simp,fun m' γ' hF hk=>⟨us,rfl,g4 m' γ' hF hk⟩⟩⟩
   simp only [RC.keys,rcsN_len,upK_mem]; exact g3 y hy
 | t l =>
  obtain ⟨us,rfl,hr⟩:=hr
  simp only [resA] at hres
  cases h1:resTs f c.avs c.ar.imm (d*64) c.g.rl l with
  | none=>simp [h1] at hres
  | some p =>
   obtain ⟨ts,rs1⟩:=p
   simp only [h1,Option.some.injEq,Prod.mk.injEq] at hres
   obtain ⟨rfl,rfl,rfl⟩:=hres
   obtain ⟨V,G,g1,g2,g3,g4⟩:=resTs_ok h hr h1
   refine ⟨V,G,g1,g2,fun y hy=> ?_,.inl ⟨rfl,by simp,fun m' γ' hF hk=>⟨us,rfl,g4 m' γ' hF hk⟩⟩⟩
   simp only [RC.keys,upK_mem]; exact g3 y hy
 | np l =>
  obtain ⟨cv,g,cur,e,hcv,rfl,hO,hcur,hr⟩:=hr
  simp only [resA] at hres
  cases h1:resCs f c.avs c.ar.imm (d*64) (hdL c.g.rl) l with
  | none=>simp [h1] at hres
  | some p =>
   obtain ⟨cs,rs1⟩:=p
   simp only [h1,Option.some.injEq,Prod.mk.injEq] at hres
   obtain ⟨rfl,rfl,rfl⟩:=hres
   obtain ⟨V,G,g1,g2,g3,g4⟩:=resCs_ok h hr h1
   refine ⟨V,G,g1,g2,fun y hy=> ?_,.inr ⟨l,cs,cv,g,cur,e,rfl,rfl,rfl,hcv,rfl,hO,hcur,g4⟩⟩
   simp only [RC.keys,rcsN_len,upK_mem]; exact g3 y hy
theorem lkZ_somes:∀ {l:List (Nat×Row)},(keys l).Nodup->∀ k,lkZ (somes l) k=(lk l k).map some
 | [],_,k=>rfl
 | (j,r)::l,hn,k=>by
  simp only [keys,List.nodup_cons] at hn
  simp only [somes,lkZ,lkZ_somes hn.2,lk]
  cases hj:Nat.beq j k with
  | true =>
   have:=nat_beq hj; subst this
   rw [lk_none.2 hn.1]; simp
  | false =>
   have:j≠k:=by rintro rfl; rw [Nat.beq_refl] at hj; cases hj
   cases lk l k<;>simp [this]
theorem somes_append (a b:List (Nat×Row)):somes (a++b)=somes a++somes b:=by
 induction a with
 | nil=>rfl
 | cons p a ih=>obtain ⟨k,r⟩:=p; simp [somes,ih]
theorem lkZ_nones (l:List Nat) (k:Nat):lkZ (nones l) k=if k∈l then some none else none:=by
 induction l with
 | nil=>rfl
 | cons j l ih =>
  simp only [nones,lkZ,ih,List.mem_cons]
  by_cases h:k∈l
  ·simp [h]
  ·by_cases hj:j=k
   ·subst hj; simp [h]
   ·simp [h,hj,Ne.symm hj]
theorem lkZ_frz (m:Lk):∀ (l:List Nat) (k:Nat),lkZ (m.frz l) k=if k∈l then (m.r k).map (fun row=>some { row with ow:=3 }) else none
 | [],k=>rfl
 | j::l,k=>by
  have ih:=lkZ_frz m l k
  simp only [Lk.frz]
  cases hj:m.r j with
  | none =>
   simp only [ih,List.mem_cons]
   by_cases h:k∈l
   ·simp [h]
   ·by_cases hjk:k=j
    ·subst hjk; simp [h,hj]
    ·simp [h,hjk]
  | some row =>
   simp only [lkZ,ih,List.mem_cons]
   by_cases h:k∈l
   ·simp only [h,if_true,or_true]
    cases hk:m.r k with
    | some r=>rfl
    | none =>
     have:j≠k:=by rintro rfl; rw [hj] at hk; cases hk
     simp [this]
   ·by_cases hjk:j=k
    ·subst hjk; simp [h,hj]
    ·simp [h,hjk,Ne.symm hjk]
theorem mem_of_lk {α:Type} {l:List (Nat×α)} {k:Nat} (h:k∈keys l):∃ v,lk l k=some v:=by
 cases hl:lk l k with
 | some v=>exact ⟨v,rfl⟩
 | none=>exact absurd h (lk_none.1 hl)
theorem keys_mem {α:Type} {l:List (Nat×α)} {k:Nat} (h:k∈keys l):∃ v,(k,v)∈l:=by
 obtain ⟨v,hv⟩:=mem_of_lk h; exact ⟨v,lk_mem hv⟩
theorem allLt_iff {n:Nat}:∀ {l:List Nat},allLt n l=true↔∀ x∈l,x<n
 | []=>by simp [allLt]
 | y::l=>by
  simp only [allLt,Bool.and_eq_true,allLt_iff,List.mem_cons,forall_eq_or_imp]
  have:Nat.blt y n=true↔y<n:=by
   show Nat.ble (y+1) n=true↔y<n
   exact ⟨fun h=>Nat.le_of_ble_eq_true h,fun h=>Nat.ble_eq_true_of_le h⟩
  rw [this]
theorem hVc_new {f:Cv->Cv} {v key:Nat}:∀ {cs:List Cv} {ms:List Nat} {j j':Nat} {ys:List Ct} {cs':List Cv} {rs:List (Nat×Row)},cellsNew f v j ms cs ys=some (cs',rs)->∀ x∈keys (hVc key ms j' cs),x∈keys rs
 | [],ms,j,j',ys,cs',rs,h,x,hx=>by simp [hVc,keys] at hx
 | c::cs,ms,j,j',ys,cs',rs,h,x,hx=>by
  cases ys with
  | nil=>simp [cellsNew] at h
  | cons y ys =>
   simp only [cellsNew] at h
   cases hrest:cellsNew f v (j+1) (tl ms) cs ys with
   | none=>simp [hrest] at h
   | some p =>
    obtain ⟨cs2,rs2⟩:=p
    simp only [hrest] at h
    have ih:=hVc_new (key:=key) (j':=j'+1) hrest
    simp only [hVc,keys_append,List.mem_append] at hx
    rcases hn:hd ms with _ | _ | n
    ·simp only [hn] at h hx
     cases hf:flatC y with
     | none=>simp [hf] at h
     | some z =>
      simp only [hf,Option.some.injEq,Prod.mk.injEq] at h
      rw [← h.2]
      rcases hx with hx | hx
      ·simp [keys] at hx
      ·exact ih x hx
    ·simp only [hn,Option.some.injEq,Prod.mk.injEq] at h hx
     rw [← h.2]
     rcases hx with hx | hx
     ·simp [keys] at hx
     ·exact ih x hx
    ·simp only [hn] at h hx
     cases y with
     | l τ xs =>
      simp only at h
      cases c with
      | sw r =>
       simp only [Option.some.injEq,Prod.mk.injEq] at h
       rw [← h.2]
       simp only [keys,List.mem_cons,List.not_mem_nil,or_false] at hx ⊢
       rcases hx with hx | hx
       ·exact .inl hx
       ·exact .inr (ih x hx)
      | _ =>
       simp only [Option.some.injEq,Prod.mk.injEq] at h
       rw [← h.2]
       simp only [keys,List.mem_cons,List.not_mem_nil,or_false,false_or] at hx ⊢
       exact .inr (ih x hx)
     | _=>simp at h
theorem hVars_new {f:Cv->Cv}:∀ {κ:List Nat} {vl:List (List Nat)} {k:Nat} {vo:List (List Ct)} {vs:List (Nat×List Cv)} {rs:List (Nat×Row)},m.varsNew f vl κ vo=some (vs,rs)->∀ x∈keys (hVars m k vl κ),x∈keys rs
 | [],vl,k,vo,vs,rs,h,x,hx=>by simp [hVars,keys] at hx
 | v::κ,vl,k,vo,vs,rs,h,x,hx=>by
  cases vo with
  | nil=>simp [Lk.varsNew] at h
  | cons l vo =>
   simp only [Lk.varsNew] at h
   cases hv:m.v v with
   | none=>simp [hv] at h
   | some cs =>
    cases h1:cellsNew f v 0 (hdL vl) cs l with
    | none=>simp [hv,h1] at h
    | some p =>
     cases h2:m.varsNew f (tl vl) κ vo with
     | none=>simp [hv,h1,h2] at h
     | some q =>
      obtain ⟨a1,r1⟩:=p
      obtain ⟨b1,q1⟩:=q
      simp only [hv,h1,h2,Option.some.injEq,Prod.mk.injEq] at h
      rw [← h.2]
      simp only [hVars,hv,keys_append,List.mem_append] at hx ⊢
      rcases hx with hx | hx
      ·exact .inl (hVc_new h1 x hx)
      ·exact .inr (hVars_new h2 x hx)
theorem ioNew_keys:∀ {l:List Nat} {ys:List Ct} {q:List (Nat×Row)},m.ioNew l ys=some q->keys q=l
 | [],ys,q,h=>by
  cases ys with
  | nil=>simp only [Lk.ioNew,Option.some.injEq] at h; subst h; rfl
  | cons=>simp [Lk.ioNew] at h
 | r::l,ys,q,h=>by
  cases ys with
  | nil=>simp [Lk.ioNew] at h
  | cons y ys =>
   cases y with
   | l τ xs =>
    simp only [Lk.ioNew] at h
    cases hr:m.r r with
    | none=>simp [hr] at h
    | some row =>
     cases h2:m.ioNew l ys with
     | none=>simp [hr,h2] at h
     | some q2 =>
      simp only [hr,h2] at h
      revert h; split
      ·intro h; simp only [Option.some.injEq] at h; subst h; simp [keys,ioNew_keys h2]
      ·intro h; cases h
   | _=>simp [Lk.ioNew] at h
def npVb (npv:Option (Nat×Nat)) (n:Nat) (vb:Nat->Nat) (k:Nat):Nat:=match npv with | some (_,g)=>if k=n then g else vb k | none=>vb k
def npV (npv:Option (Nat×Nat)) (n k:Nat):Option Ow:=match npv with | some (cv,_)=>if k=cv then some (.v n) else none | none=>none
theorem call_ok {c:CallI} {args:List Value} (h:c.Ent X S γ w args) {cr:CR} {v:Value} {w1:World} (hp:Post X c.g c.ar.acs c.vin (c.gh X γ w args) w cr v w1) {d:Nat} (hd:d<1500) {av:AV}
  (ha:c.m.after c.g c.avs c.ar cr c.ow d=some (av,δ)):∃ γ',Step X S γ w δ γ' w1/\RelA (S.app δ).lk γ' av v:=by
 obtain ⟨O1,ka,kb,kc,hfr,hnd,hres,hvo,hio⟩:=hp
 have hf:=h.ok.fact
 have hai:=args_inv c.avs c.g.am [] 0 c.ar h.ok.args
 simp only [Lk.after] at ha
 obtain ⟨δ0,hδ0⟩:∃ δ0,c.m.dl0 c.ar cr.res c.ow d=δ0:=⟨_,rfl⟩
 rw [hδ0] at ha
 cases h1:c.m.varsNew δ0.map c.g.vl c.ar.κ cr.vo with
 | none=>simp [h1] at ha
 | some p1 =>
  obtain ⟨vs,r1⟩:=p1
  cases h2:c.m.ioNew c.ar.io cr.io with
  | none=>simp [h1,h2] at ha
  | some r2 =>
   cases h3:resA δ0.map c.avs c.ar.imm c.g.rl d cr.res with
   | none=>simp [h1,h2,h3] at ha
   | some p3 =>
    obtain ⟨av',r3,vn⟩:=p3
    simp only [h1,h2,h3] at ha
    cases hn1:nodupN (c.ar.gone++(keys r1++(keys r2++keys r3)))&&allLt 100000 (cr.res.keys d) with
    | false=>simp [hn1] at ha
    | true =>
     cases hn2:disjN c.ar.fz (keys r1++(keys r2++keys r3)) with
     | false=>simp [hn1,hn2] at ha
     | true =>
      simp only [hn1,hn2,Option.some.injEq,Prod.mk.injEq] at ha
      obtain ⟨rfl,hδ⟩:=ha
      simp only [Bool.and_eq_true] at hn1
      obtain ⟨hn1,hn3⟩:=hn1
      have hn1:=nodupN_iff.1 hn1
      have hn2:=disjN_iff.1 hn2
      let K:=ka++(kb++kc)
      let A:Nat->Prop:=fun g=>∃ r,r∉K/\Fam r (O1 g)
      obtain ⟨V3,G3,g3,n3,k3,hav⟩:=resA_ok h hres h3
      obtain ⟨V1,G1,g1,n1,kvs,k1,o1,q1⟩:=varsNew_ok (I:=c.ar.imm=true) (A:=A) h hvo (fun i=>by simp) rfl h1
      have hio':keys (hIo (c.g.am.drop 0) 0 c.avs)=c.ar.io:=hai.io
      obtain ⟨V2,G2,g2,n2,o2,q2⟩:=ioNew_ok (I:=c.ar.imm=true) (A:=A) h hio (fun i=>by simp) (fun i=>by simp) hai.len (by rw [hio']; exact h2)
      let N:=r1++(r2++r3)
      let V:=V1++(V2++V3)
      have hN:NewRows X (c.ar.imm=true) A O1 w1 N V (G1++(G2++G3)):=n1.append (n2.append n3)
      have hkN:keys N=keys r1++(keys r2++keys r3):=by simp only [N,keys_append]
      have hkV:keys V=keys N:=hN.keys
      have hNnd:(keys N).Nodup:=by rw [hkN]; exact (List.nodup_append.1 hn1).2.1
      have hgN:∀ k,k∈c.ar.gone->k∉keys N:=fun k hk hk'=>by rw [hkN] at hk'; exact (List.nodup_append.1 hn1).2.2 k hk k hk' rfl
      have hfN:∀ k,k∈c.ar.fz->k∉keys N:=fun k hk=>by rw [hkN]; exact hn2 k hk
      let G:=G1++(G2++G3)
      have hGk:∀ k,k∈keys G↔k∈K:=by
       intro k; simp only [G,K,keys_append,g1,g2,g3,List.mem_append]
       constructor
       ·rintro (h | h | h)
        ·exact .inr (.inl h)
        ·exact .inr (.inr h)
        ·exact .inl h
       ·rintro (h | h | h)
        ·exact .inr (.inr h)
        ·exact .inl h
        ·exact .inr (.inl h)
      have hGnd:(keys G).Nodup:=by
       simp only [G,keys_append,g1,g2,g3]
       simp only [List.nodup_append,List.mem_append] at hnd ⊢
       obtain ⟨na,⟨nb,nc,nbc⟩,nabc⟩:=hnd
       refine ⟨nb,⟨nc,na,fun x hx y hy e=>nabc y hy x (.inr hx) e.symm⟩,fun x hx y hy e=> ?_⟩
       rcases hy with hy | hy
       ·exact nbc x hx y hy e
       ·exact nabc y hy x (.inl hx) e.symm
      have hmap:δ.map=δ0.map:=by rw [← hδ]; funext x; cases x<;>rfl
      have hvsδ:δ.vs=vs++vn:=by rw [← hδ]
      have hkr:δ.kr=c.ar.gone++(c.ow++(cr.res.keys d++c.m.homesOf c.ar.κ)):=by rw [← hδ,← hδ0]; rfl
      have hke:δ.ke=c.ar.io:=by rw [← hδ,← hδ0]; rfl
      have hkvδ:δ.kv=cr.res.kv d:=by rw [← hδ,← hδ0]; rfl
      have hmv:δ.mv=[]:=by rw [← hδ,← hδ0]; rfl
      have hkn:δ.kn=[]:=by rw [← hδ,← hδ0]; rfl
      have hlk:∀ k,lkZ δ.rs k=match lk N k with | some row=>some (some row) | none=>if k∈c.ar.fz then (c.m.r k).map (fun row=>some { row with ow:=3 }) else if k∈c.ar.gone then some none else none:=by
       intro k
       rw [← hδ]
       show lkZ (nones c.ar.gone++(c.m.frz c.ar.fz++(somes r1++(somes r2++somes r3)))) k=_
       rw [← somes_append,← somes_append,lkZ_append,lkZ_append,lkZ_somes hNnd,lkZ_frz,lkZ_nones]
       cases hl:lk N k with
       | some row=>simp
       | none =>
        simp only [Option.map_none]
        by_cases hk:k∈c.ar.fz
        ·obtain ⟨row,hr,_⟩:=hai.fzr k hk
         simp [hk,hr]
        ·simp [hk]
      obtain ⟨npv,hnpv⟩:∃ npv:Option (Nat×Nat),(npv=none->vn=[]/\cr.res.kv d=[]/\∀ m' γ',Fits m' γ' r3 V3->(∀ x v,RelC S.lk γ x v->RelC m' γ' (δ0.map x) v)->RelA m' γ' av' v) /\
        ∀ cv g,npv=some (cv,g)->∃ (cs:List Cv) (cur:Array Value) (e:TypeId),vn=[(1000+d,cs)]/\cr.res.kv d=[1000+d]/\av'= .c (.pv (1000+d) 0)/\1000<=cv/\v= .pointer (some ⟨g,0,none⟩)/\O1 g=some (.v cv) /\
         w1.heap[g]? =some (.cells cur e (0,0))/\∀ m' γ',Fits m' γ' r3 V3->(∀ x v,RelC S.lk γ x v->RelC m' γ' (δ0.map x) v)->RelL m' γ' cs cur.toList:=by
       rcases hav with ⟨hv1,hv2,hv3⟩ | ⟨l,cs,cv,g,cur,e,e1,e2,e3,e4,e5,e6,e7,e8⟩
       ·refine ⟨none,fun _=>⟨hv1,?_,hv3⟩,fun _ _ h=>by cases h⟩
        cases hcr:cr.res<;>first | rfl | exact absurd hcr (hv2 _)
       ·refine ⟨some (cv,g),fun h=>(by cases h),fun _ _ h=> ?_⟩
        simp only [Option.some.injEq,Prod.mk.injEq] at h
        obtain ⟨rfl,rfl⟩:=h
        exact ⟨cs,cur,e,e2,by rw [e1]; rfl,e3,e4,e5,e6,e7,e8⟩
      let a:Rb:=⟨fun r=>lk G r,none,fun k=>if k<1000 then (c.ar.κ[k]?).map Ow.v else npV npv (1000+d) k⟩
      let first:Nat->Prop:=fun g=>g<w.heap.size/\(c.O γ g=none\/c.O γ g=some .x)
      have hdec:∃ O':OM,(∀ g,first g->O' g=γ.O g)/\∀ g,¬ first g->O' g=(O1 g).bind a.f:=by
       classical
       refine ⟨fun g=>if first g then γ.O g else (O1 g).bind a.f,fun g hg=>if_pos hg,fun g hg=>if_neg hg⟩
      obtain ⟨O',hO1',hO2'⟩:=hdec
      let γ':Gh:=⟨O',fun k=>match lk V k with | some p=>p.1 | none=>γ.rv k,fun k=>match lk V k with | some p=>p.2 | none=>γ.cv k,npVb npv (1000+d) γ.vb⟩
      have hVnone:∀ k,k∉keys N->lk V k=none:=fun k hk=>lk_none.2 (by rw [hkV]; exact hk)
      have hrvN:∀ k,k∉keys N->γ'.rv k=γ.rv k/\γ'.cv k=γ.cv k:=by
       intro k hk
       constructor
       ·show (match lk V k with | some p=>p.1 | none=>γ.rv k)=_; rw [hVnone k hk]
       ·show (match lk V k with | some p=>p.2 | none=>γ.cv k)=_; rw [hVnone k hk]
      have hblk:∀ g,g<w.heap.size->(c.O γ g=none\/c.O γ g=some .fz\/c.O γ g=some .x)->O1 g=c.O γ g/\w1.heap[g]? =w.heap[g]? :=fun g hg ho=>hfr.blk g hg ho
      have hfz1:∀ g,g<w.heap.size->c.O γ g=some .fz->O' g=some .fz:=by
       intro g hg ho
       have hnf:¬ first g:=by rintro ⟨_,h | h⟩<;>rw [ho] at h<;>cases h
       rw [hO2' g hnf,(hblk g hg (.inr (.inl ho))).1,ho]; rfl
      have hOc:∀ g,c.O γ g=(γ.O g).bind c.rb.f:=fun _=>rfl
      have hstay:∀ k row,S.lk.r k=some row->lk c.H k=none->k∉c.ar.fz->RowR X O' w1 k row (γ.rv k) (γ.cv k):=by
       intro k row hk hH hkf
       have hor:c.rb.r k=none\/c.rb.r k=some (0,1):=by
        simp only [CallI.rb,hH,if_neg hkf]
        split
        ·exact .inr rfl
        ·exact .inl rfl
       have htn:∀ x,(∃ e c',x=Ow.n k e c')\/x= .r k->c.rb.f x=none\/c.rb.f x=some .x:=by
        rintro x (⟨e,c',rfl⟩ | rfl)
        ·rcases hor with h | h<;>simp only [Rb.f,h]
         ·exact .inr rfl
         ·exact .inl rfl
        ·rcases hor with h | h<;>simp only [Rb.f,h]
         ·exact .inr rfl
         ·exact .inl rfl
       refine row_same (h.rel.rs k row hk) fun g o hg hi=> ?_
       have hlt:=lt_of_some hg
       rcases InR_cases hi with h0 | h0 | ⟨h0,_⟩ | ⟨e,c',h0,_⟩
       ·have hc0:c.O γ g=none:=by rw [hOc,h0]; rfl
        exact ⟨((hblk g hlt (.inl hc0)).2).trans hg,hO1' g ⟨hlt,.inl hc0⟩⟩
       ·have hc0:c.O γ g=some .fz:=by rw [hOc,h0]; rfl
        exact ⟨((hblk g hlt (.inr (.inl hc0))).2).trans hg,by rw [hfz1 g hlt hc0,h0]⟩
       ·have hc0:c.O γ g=none\/c.O γ g=some .x:=by rw [hOc,h0]; exact htn _ (.inr rfl)
        exact ⟨((hblk g hlt (hc0.elim .inl fun h=> .inr (.inr h))).2).trans hg,hO1' g ⟨hlt,hc0⟩⟩
       ·have hc0:c.O γ g=none\/c.O γ g=some .x:=by rw [hOc,h0]; exact htn _ (.inl ⟨e,c',rfl⟩)
        exact ⟨((hblk g hlt (hc0.elim .inl fun h=> .inr (.inr h))).2).trans hg,hO1' g ⟨hlt,hc0⟩⟩
      have hin3:∀ {r ow:Nat} {o:Option Ow},(ow=3\/ow=4\/ow=5)->InR r ow o->o=some .fz\/(o=some (.r r)/\ownK ow=true)\/∃ e c,o=some (.n r e c)/\ow=5:=by
       intro r ow o ho hi
       rcases InR_cases hi with h0 | h0 | h0 | h0
       ·exfalso; subst h0
        rcases hi with h | ⟨e,c',h⟩<;>rcases ho with rfl | rfl | rfl<;>cases h
       ·exact .inl h0
       ·exact .inr (.inl h0)
       ·exact .inr (.inr h0)
      have hfrz:∀ k row,k∈c.ar.fz->c.m.r k=some row->RowR X O' w1 k { row with ow:=3 } (γ.rv k) (γ.cv k):=by
       intro k row hk hr
       obtain ⟨row2,hr2,hle⟩:=hai.fzr k hk
       rw [hr] at hr2; cases hr2
       have ho:row.ow=3\/row.ow=4\/row.ow=5:=by
        rcases leK_inv hle with h | ⟨h,_⟩ | ⟨_,h⟩ | ⟨h,_⟩ | ⟨h,_⟩<;>first | exact h | cases h
       have:=(h.rel.rs k row (h.le.r _ _ hr)).relabel (a:=c.rb) (O':=O') (w':=w1) (fun _=>hf.fz k hk) hle (fun g o hg hi=>by
        have hlt:=lt_of_some hg
        have hc0:c.O γ g=some .fz:=by
         rw [hOc]
         rcases hin3 ho hi with h0 | ⟨h0,_⟩ | ⟨e,c',h0,_⟩<;>rw [h0]
         ·rfl
         ·show c.rb.f (.r k)=_; simp only [Rb.f,hf.fz k hk]; rfl
         ·show c.rb.f (.n k e c')=_; simp only [Rb.f,hf.fz k hk]; rfl
        exact ⟨((hblk g hlt (.inr (.inl hc0))).2).trans hg,by rw [hfz1 g hlt hc0,← hOc,hc0]⟩)
       exact ⟨this.top,this.cel⟩
      have hnew:=hN.row (a:=a) (O':=O') (fun p hp=>lk_of_mem hGnd hp) (fun g o r ow hg ho hi=>by
        refine hO2' g fun hfi=> ?_
        have h1:=(hblk g hfi.1 (hfi.2.elim .inl fun h=> .inr (.inr h))).1
        rcases hin3 ho hi with h0 | ⟨h0,_⟩ | ⟨e,c',h0,_⟩<;>rw [h1] at h0<;>rcases hfi.2 with h2 | h2<;>rw [h2] at h0<;>cases h0)
       (fun himm g o hg hA=>by
        obtain ⟨r,hrK,hfam⟩:=hA
        have hnone:c.O γ g=none->γ.O g=none:=by
         intro hc0
         cases hgo:γ.O g with
         | none=>rfl
         | some x =>
          exfalso
          rw [hOc,hgo] at hc0
          have hc0:c.rb.f x=none:=hc0
          have hκ:c.ar.κ=[]:=hai.immk himm
          have hb0:c.b=[]:=by
           have hh:=h.ok.hand
           simp only [Lk.handed,hκ,Lk.ownRowsOf] at hh
           revert hh; split
           ·intro hh; simp only [Option.some.injEq,Prod.mk.injEq] at hh; exact hh.2.symm
           ·intro hh; cases hh
          have hrr:∀ k,c.rb.r k=none\/∃ p,c.rb.r k=some p/\(p.2=3\/p.2=4\/p.2=5):=by
           intro k
           simp only [CallI.rb]
           cases hl:lk c.H k with
           | some p =>
            right; refine ⟨p,rfl,?_⟩
            have hm:=lk_mem hl
            simp only [CallI.H,List.mem_append] at hm
            rcases hm with hm | hm | hm
            ·have:∀ (am:List Nat) (P:Nat) (l:List AV) (x:Nat×(Nat×Nat)),x∈hGone am P l->x.2.2=4\/x.2.2=5:=by
              intro am P l
              induction l generalizing am P with
              | nil=>intro x hx; simp [hGone] at hx
              | cons v l ih =>
               intro x hx
               simp only [hGone,List.mem_append] at hx
               rcases hx with hx | hx
               ·have hcs:∀ (key dd:Nat) (cs:List Cv) (j:Nat) (x:Nat×(Nat×Nat)),x∈hCs key dd j cs->x.2.2=dd:=by
                 intro key dd cs
                 induction cs with
                 | nil=>intro j x hx; simp [hCs] at hx
                 | cons cc cs ih2 =>
                  intro j x hx
                  cases cc<;>simp only [hCs,List.mem_cons] at hx<;>first | exact ih2 _ _ hx | (rcases hx with rfl | hx; rfl; exact ih2 _ _ hx)
                revert hx; split
                ·rename_i h45
                 intro hx
                 have:=hcs _ _ _ _ _ hx
                 revert h45; unfold is45; split
                 ·rename_i h4; exact fun _=> .inl (this.trans h4)
                 ·rename_i h5; exact fun _=> .inr (this.trans h5)
                 ·simp
                ·intro hx; simp at hx
               ·exact ih _ _ x hx
             rcases this _ _ _ _ hm with h | h
             ·exact .inr (.inl h)
             ·exact .inr (.inr h)
            ·rw [hκ] at hm; simp [hVars] at hm
            ·have:∀ (am:List Nat) (P:Nat) (l:List AV) (x:Nat×(Nat×Nat)),x∈hIo am P l->x.2.2=5:=by
              intro am P l
              induction l generalizing am P with
              | nil=>intro x hx; simp [hIo] at hx
              | cons v l ih =>
               intro x hx
               simp only [hIo,List.mem_append] at hx
               rcases hx with hx | hx
               ·have hcs:∀ (key dd:Nat) (cs:List Cv) (j:Nat) (x:Nat×(Nat×Nat)),x∈hCs key dd j cs->x.2.2=dd:=by
                 intro key dd cs
                 induction cs with
                 | nil=>intro j x hx; simp [hCs] at hx
                 | cons cc cs ih2 =>
                  intro j x hx
                  cases cc<;>simp only [hCs,List.mem_cons] at hx<;>first | exact ih2 _ _ hx | (rcases hx with rfl | hx; rfl; exact ih2 _ _ hx)
                revert hx; split
                ·intro hx; exact hcs _ _ _ _ _ hx
                ·intro hx; simp at hx
               ·exact ih _ _ x hx
             exact .inr (.inr (this _ _ _ _ hm))
           | none =>
            simp only
            split
            ·exact .inr ⟨_,rfl,.inl rfl⟩
            ·left
             rw [if_neg]
             rintro ⟨hb,row,hr,ho⟩
             rcases hb with hb | hb
             ·rw [hai.immb himm k hb row hr] at ho; cases ho
             ·rw [hb0] at hb; cases hb
          cases x with
          | fz=>cases hc0
          | x=>cases hc0
          | v k =>
           simp only [Rb.f,CallI.rb] at hc0
           split at hc0<;>cases hc0
          | r k =>
           rcases hrr k with h0 | ⟨p,h0,h5⟩<;>simp only [Rb.f,h0] at hc0
           ·cases hc0
           ·obtain ⟨p1,p2⟩:=p
            rcases h5 with h | h | h<;>simp only at h<;>subst h<;>cases hc0
          | n k e c' =>
           rcases hrr k with h0 | ⟨p,h0,h5⟩<;>simp only [Rb.f,h0] at hc0
           ·cases hc0
           ·obtain ⟨p1,p2⟩:=p
            rcases h5 with h | h | h<;>simp only at h<;>subst h<;>cases hc0
        by_cases hfi:first g
        ·have h1:=(hblk g hfi.1 (hfi.2.elim .inl fun h=> .inr (.inr h))).1
         rw [hO1' g hfi]
         rcases hfi.2 with h2 | h2
         ·exact .inl (hnone h2)
         ·exfalso; rw [h1,h2] at hfam
          rcases hfam with h | h | h | ⟨_,_,h⟩<;>cases h
        ·rw [hO2' g hfi]
         have hlr:lk G r=none:=lk_none.2 fun hk=>hrK ((hGk r).1 hk)
         rcases hfam with h | h | h | ⟨e,c',h⟩<;>rw [h]
         ·exact .inl rfl
         ·exact .inr rfl
         ·left; show a.f (.r r)=none; simp only [Rb.f,a,hlr]
         ·left; show a.f (.n r e c')=none; simp only [Rb.f,a,hlr])
      have hio2:keys r2=c.ar.io:=ioNew_keys h2
      have how1:∀ x∈c.ow,x∈keys r1:=fun x hx=>hVars_new (k:=0) h1 x (by rw [h.ok.own.1]; exact hx)
      have hnotkr:∀ r,hasN r δ.kr=false->r∉c.ar.gone/\r∉c.ow/\r∉cr.res.keys d/\r∉c.m.homesOf c.ar.κ:=by
       intro r hr
       have hr:r∉δ.kr:=fun hm=>by rw [hasN_iff.2 hm] at hr; cases hr
       rw [hkr] at hr
       simp only [List.mem_append,not_or] at hr
       exact hr
      have hNk:∀ r,r∈keys N->hasN r δ.kr=false->r∈c.ar.io:=by
       intro r hr hk
       obtain ⟨_,k2,k3',k4⟩:=hnotkr r hk
       rw [hkN] at hr
       simp only [List.mem_append] at hr
       rcases hr with hr | hr | hr
       ·rcases k1 r hr with ⟨h,_⟩ | h
        ·exact absurd h k2
        ·exact absurd h k4
       ·rw [← hio2]; exact hr
       ·exact absurd (k3 r hr) k3'
      have hV2:∀ r,r∈keys r2->γ'.rv r=γ.rv r:=by
       intro r hr
       obtain ⟨p,hp⟩:=mem_of_lk (l:=V) (k:=r) (by rw [hkV,hkN]; simp [hr])
       show (match lk V r with | some p=>p.1 | none=>γ.rv r)=_
       rw [hp]
       have hm:=lk_mem hp
       have hnd2:=(List.nodup_append.1 hn1).2.1
       simp only [V,List.mem_append] at hm
       rcases hm with hm | hm | hm
       ·have:=mem_keys hm
        rw [n1.keys] at this
        exact absurd rfl ((List.nodup_append.1 hnd2).2.2 r this r (by simp [hr]))
       ·exact q2 r p.1 p.2 hm
       ·have:=mem_keys hm
        rw [n3.keys] at this
        exact absurd rfl ((List.nodup_append.1 (List.nodup_append.1 hnd2).2.1).2.2 r hr r this)
      have hlkN:∀ r,r∉keys N->lk N r=none:=fun r hr=>lk_none.2 hr
      have hrow1:∀ r row,S.lk.r r=some row->hasN r δ.kr=false->r∉c.ar.io->∃ row',(S.app δ).lk.r r=some row'/\row'.τ=row.τ/\row'.xs.length=row.xs.length/\∀ e,row'.cs e=row.cs e:=by
       intro r row hr hk hi
       have hrN:r∉keys N:=fun hm=>hi (hNk r hm hk)
       rw [app_r,hlk,hlkN r hrN]
       by_cases hz:r∈c.ar.fz
       ·obtain ⟨row2,hr2,_⟩:=hai.fzr r hz
        have:=h.le.r r row2 hr2
        rw [hr] at this; cases this
        simp only [hz,if_true,hr2,Option.map_some]
        exact ⟨_,rfl,rfl,rfl,fun _=>rfl⟩
       ·simp only [hz,(hnotkr r hk).1,if_false]
        exact ⟨row,hr,rfl,rfl,fun _=>rfl⟩
      have hvb:∀ k,(npv=none\/k≠1000+d)->γ'.vb k=γ.vb k:=by
       intro k hk
       show npVb npv (1000+d) γ.vb k=_
       rcases hk with hk | hk
       ·rw [hk]; rfl
       ·cases hnp:npv with
        | none=>rfl
        | some p=>simp only [npVb,if_neg hk]
      have keep:∀ x v,RelC S.lk γ x v->RelC (S.app δ).lk γ' (δ.map x) v:=by
       refine keep_of h.rel hmv (fun r row hr hk=> ?_) (fun r row row' hr hk hke' hr'=> ?_) (fun r hk hke' _=>⟨fun row row' hr hr'=> ?_⟩) (fun k cs hk hkv'=>⟨?_,?_⟩)
       ·by_cases hi:r∈c.ar.io
        ·obtain ⟨row',hr'⟩:=mem_of_lk (l:=N) (k:=r) (by rw [hkN,hio2]; simp [hi])
         exact ⟨⟨row',by rw [app_r,hlk,hr']⟩,hV2 r (by rw [hio2]; exact hi)⟩
        ·obtain ⟨row',h1,_⟩:=hrow1 r row hr hk hi
         exact ⟨⟨row',h1⟩,(hrvN r (fun hm=>hi (hNk r hm hk))).1⟩
       ·have hi:r∉c.ar.io:=fun hm=>by rw [← hke] at hm; rw [hasN_iff.2 hm] at hke'; cases hke'
        obtain ⟨row2,h1,h2,h3,_⟩:=hrow1 r row hr hk hi
        rw [hr'] at h1; cases h1
        exact ⟨h2,by omega⟩
       ·have hi:r∉c.ar.io:=fun hm=>by rw [← hke] at hm; rw [hasN_iff.2 hm] at hke'; cases hke'
        obtain ⟨row2,h1,h2,h3,h4⟩:=hrow1 r row hr hk hi
        rw [hr'] at h1; cases h1
        intro e c' τ ys _ hc
        exact ⟨⟨ys,by rw [h4]; exact hc,Nat.le_refl _⟩,by rw [(hrvN r (fun hm=>hi (hNk r hm hk))).2]⟩
       ·rw [app_v]
        cases lkZ δ.vs k with
        | some cs'=>exact ⟨cs',rfl⟩
        | none=>simp only [hk,Option.map_some]; exact ⟨_,rfl⟩
       ·refine hvb k ?_
        cases hnp:npv with
        | none=>exact .inl rfl
        | some p =>
         right
         obtain ⟨cv,g⟩:=p
         obtain ⟨cs',cur,e,_,e2,_⟩:=hnpv.2 cv g hnp
         rw [hkvδ,e2] at hkv'
         exact hasN1.1 hkv'
      have hrow2:∀ k row,(S.app δ).lk.r k=some row->RowR X O' w1 k row (γ'.rv k) (γ'.cv k):=by
       intro k row hk
       rw [app_r,hlk] at hk
       cases hl:lk N k with
       | some row2 =>
        simp only [hl] at hk; cases hk
        obtain ⟨v',cs',h1,h2⟩:=hnew k row hl
        have e1:γ'.rv k=v':=by show (match lk V k with | some p=>p.1 | none=>γ.rv k)=_; rw [h1]
        have e2:γ'.cv k=cs':=by show (match lk V k with | some p=>p.2 | none=>γ.cv k)=_; rw [h1]
        rw [e1,e2]; exact h2
       | none =>
        simp only [hl] at hk
        have hkN':k∉keys N:=lk_none.1 hl
        obtain ⟨e1,e2⟩:=hrvN k hkN'
        rw [e1,e2]
        by_cases hz:k∈c.ar.fz
        ·obtain ⟨row2,hr2,_⟩:=hai.fzr k hz
         simp only [hz,if_true,hr2,Option.map_some,Option.some.injEq] at hk
         subst hk
         exact hfrz k row2 hz hr2
        ·by_cases hg:k∈c.ar.gone
         ·simp only [hz,hg,if_true,if_false] at hk; cases hk
         ·simp only [hz,hg,if_false] at hk
          refine hstay k row hk ?_ hz
          rw [lk_none,hf.kH]
          simp only [List.mem_append,not_or]
          refine ⟨hg,fun hm=>hkN' ?_,fun hm=>hkN' ?_⟩
          ·rw [hkN]; simp [how1 k hm]
          ·rw [hkN,hio2]; simp [hm]
      have hfits:Fits (S.app δ).lk γ' N V:=by
       refine ⟨fun k row hm=> ?_,fun k v' cs' hm=> ?_⟩
       ·obtain ⟨row',hr'⟩:=lk_some_of_mem hm
        exact ⟨row',by rw [app_r,hlk,hr']⟩
       ·show (match lk V k with | some p=>p.1 | none=>γ.rv k)=_
        rw [lk_of_mem (by rw [hkV]; exact hNnd) hm]
      have keep0:∀ x v,RelC S.lk γ x v->RelC (S.app δ).lk γ' (δ0.map x) v:=by rw [← hmap]; exact keep
      have hκn:c.ar.κ.Nodup:=hai.nd (by simp)
      have hlkZ_mem:∀ (l:List (Nat×List Cv)) (k:Nat),(∀ cs,lkZ l k=some cs->(k,cs)∈l)/\(lkZ l k=none->k∉keys l):=by
       intro l k
       induction l with
       | nil=>exact ⟨fun cs h=>by simp [lkZ] at h,fun _=>by simp [keys]⟩
       | cons p l ih =>
        obtain ⟨j,u⟩:=p
        simp only [lkZ,keys,List.mem_cons]
        cases hl:lkZ l k with
        | some cs' =>
         exact ⟨fun cs h=>by simp only [Option.some.injEq] at h; subst h; exact .inr (ih.1 _ hl),fun h=>by cases h⟩
        | none =>
         refine ⟨fun cs h=> ?_,fun h=> ?_⟩
         ·by_cases hj:j=k
          ·simp only [hj,if_true,Option.some.injEq] at h; subst h; subst hj; simp
          ·simp only [hj,if_false] at h; cases h
         ·by_cases hj:j=k
          ·simp [hj] at h
          ·simp [Ne.symm hj,ih.2 hl]
      refine ⟨γ',⟨⟨fun k cs hk=> ?_,hrow2⟩,keep,⟨hfr.os,hfr.tape,hfr.output,hfr.size,fun g hg ho=> ?_,fun g hg=> ?_⟩,fun k row hk _=> ?_,fun k row hk h1'=> ?_,fun k h1' h2'=> ?_,fun k hk=> ?_,fun k cs hk hz=> ?_⟩,?_⟩
      ·
       rw [app_v,hvsδ] at hk
       have old:lkZ (vs++vn) k=none->(S.lk.v k).map (List.map δ.map)=some cs->O' (γ'.vb k)=some (.v k)/\∃ cur e,w1.heap[γ'.vb k]? =some (.cells cur e (0,0))/\RelL (S.app δ).lk γ' cs cur.toList:=by
        intro hz hk
        cases hc:S.lk.v k with
        | none=>simp [hc] at hk
        | some cs0 =>
         simp only [hc,Option.map_some,Option.some.injEq] at hk; subst hk
         obtain ⟨hO,cur,e,hcur,hrl⟩:=h.rel.vs k cs0 hc
         rw [lkZ_append] at hz
         have hzn:lkZ vn k=none:=by revert hz; cases lkZ vn k<;>simp
         have hzv:lkZ vs k=none:=by rw [hzn] at hz; exact hz
         have hkκ:k∉c.ar.κ:=by rw [← kvs]; exact (hlkZ_mem vs k).2 hzv
         have hvbk:γ'.vb k=γ.vb k:=by
          refine hvb k ?_
          cases hnp:npv with
          | none=>exact .inl rfl
          | some p =>
           right
           obtain ⟨cv,g⟩:=p
           obtain ⟨cs',cur',e',e1,_⟩:=hnpv.2 cv g hnp
           rintro rfl
           rw [e1] at hzn; simp [lkZ] at hzn
         rw [hvbk]
         have hlt:=lt_of_some hcur
         have hx:c.O γ (γ.vb k)=some .x:=by
          rw [hOc,hO]
          show c.rb.f (.v k)=_
          have:idxO k 0 c.ar.κ=none:=by
           cases hi:idxO k 0 c.ar.κ with
           | none=>rfl
           | some i=>exact absurd (List.mem_of_getElem? (idxO_get hi).2) hkκ
          simp only [Rb.f,CallI.rb,this]
         exact ⟨by rw [hO1' _ ⟨hlt,.inr hx⟩,hO],cur,e,((hblk _ hlt (.inr (.inr hx))).2).trans hcur,hrl.map keep⟩
       cases hz:lkZ (vs++vn) k with
       | none=>rw [hz] at hk; exact old hz hk
       | some cs1 =>
        rw [hz] at hk; simp only [Option.some.injEq] at hk; subst hk
        have given:lkZ vs k=some cs1->(npv=none\/k≠1000+d)->O' (γ'.vb k)=some (.v k)/\∃ cur e,w1.heap[γ'.vb k]? =some (.cells cur e (0,0))/\RelL (S.app δ).lk γ' cs1 cur.toList:=by
         intro hzv hnk
         obtain ⟨i,cur,e,hi,hO,hcur,hrl⟩:=q1 (S.app δ).lk γ' hfits.left keep0 k cs1 ((hlkZ_mem vs k).1 _ hzv)
         rw [hvb k hnk]
         have hnf:¬ first (γ.vb k):=by
          intro hfi
          have h1:=(hblk _ hfi.1 (hfi.2.elim .inl fun h=> .inr (.inr h))).1
          rw [hO] at h1
          rcases hfi.2 with h2 | h2<;>rw [h2] at h1<;>cases h1
         have hi1:i<1000:=by have:=(List.getElem?_eq_some_iff.1 hi).1; have:=h.ok.klen; omega
         refine ⟨?_,cur,e,hcur,hrl⟩
         rw [hO2' _ hnf,hO]
         show a.f (.v i)=_
         simp only [Rb.f,a,if_pos hi1,hi,Option.map_some]
        cases hnp:npv with
        | none =>
         rw [(hnpv.1 hnp).1,List.append_nil] at hz
         exact given hz (.inl hnp)
        | some p =>
         obtain ⟨cv,g⟩:=p
         obtain ⟨cs',cur,e,e1,e2,e3,e4,e5,e6,e7,e8⟩:=hnpv.2 cv g hnp
         by_cases hk1:k=1000+d
         ·subst hk1
          rw [e1,lkZ_append] at hz
          simp only [lkZ,if_true,Option.some.injEq] at hz; subst hz
          have hvbg:γ'.vb (1000+d)=g:=by
           show npVb npv (1000+d) γ.vb (1000+d)=_
           rw [hnp]; simp [npVb]
          rw [hvbg]
          have hnf:¬ first g:=by
           intro hfi
           have h1:=(hblk _ hfi.1 (hfi.2.elim .inl fun h=> .inr (.inr h))).1
           rw [e6] at h1
           rcases hfi.2 with h2 | h2<;>rw [h2] at h1<;>cases h1
          refine ⟨?_,cur,e,e7,e8 _ _ hfits.right.right keep0⟩
          show O' g=_
          rw [hO2' _ hnf,e6]
          show a.f (.v cv)=_
          simp only [Rb.f,a,if_neg (show ¬ cv<1000 by omega),hnp,npV,if_true]
         ·rw [e1,lkZ_append] at hz
          simp only [lkZ,if_neg (Ne.symm hk1)] at hz
          exact given hz (.inr hk1)
      ·
       rcases ho with ho | ho | ho
       ·have hc0:c.O γ g=none:=by rw [hOc,ho]; rfl
        exact ⟨hO1' g ⟨hg,.inl hc0⟩,(hblk g hg (.inl hc0)).2⟩
       ·have hc0:c.O γ g=some .fz:=by rw [hOc,ho]; rfl
        exact ⟨by rw [ho]; exact hfz1 g hg hc0,(hblk g hg (.inr (.inl hc0))).2⟩
       ·have hc0:c.O γ g=some .x:=by rw [hOc,ho]; rfl
        exact ⟨hO1' g ⟨hg,.inr hc0⟩,(hblk g hg (.inr (.inr hc0))).2⟩
      ·show O' g=none
       have hnf:¬ first g:=fun hfi=>by have:=hfr.size; have:=hfi.1; omega
       rw [hO2' g hnf,hfr.top g hg]; rfl
      ·refine hrvN k fun hm=> ?_
       obtain ⟨row',hr'⟩:=mem_of_lk hm
       rw [hlk,hr'] at hk; cases hk
      ·rw [hlk] at hk
       cases hl:lk N k with
       | some row2 =>
        simp only [hl,Option.some.injEq] at hk; subst hk
        have hm:=lk_mem hl
        simp only [N,List.mem_append] at hm
        rcases hm with hm | hm | hm
        ·have:=o1 _ hm; rw [h1'] at this; simp [hdK] at this
        ·have:=o2 _ hm; rw [h1'] at this; cases this
        ·exact allLt_iff.1 hn3 k (k3 k (mem_keys hm))
       | none =>
        simp only [hl] at hk
        by_cases hz:k∈c.ar.fz
        ·obtain ⟨row2,hr2,_⟩:=hai.fzr k hz
         simp only [hz,if_true,hr2,Option.map_some,Option.some.injEq] at hk
         subst hk; cases h1'
        ·simp only [hz,if_false] at hk
         split at hk<;>cases hk
      ·by_cases hm:k∈keys N
       ·rw [hkN] at hm
        simp only [List.mem_append] at hm
        rcases hm with hm | hm | hm
        ·rcases k1 k hm with ⟨_,hni⟩ | hh
         ·exact absurd ⟨h1',h2'⟩ (notIo_ne hni)
         ·have:=homesOf_ge hh; omega
        ·exact hV2 k hm
        ·have:=allLt_iff.1 hn3 k (k3 k hm); omega
       ·exact (hrvN k hm).1
      ·exact hvb k (.inr (by omega))
      ·rw [hvsδ,lkZ_append] at hz
       have hzn:lkZ vn k=none:=by revert hz; cases lkZ vn k<;>simp
       have hzv:lkZ vs k=none:=by rw [hzn] at hz; exact hz
       have hkκ:k∉c.ar.κ:=by rw [← kvs]; exact (hlkZ_mem vs k).2 hzv
       obtain ⟨hO,cur,e,hcur,_⟩:=h.rel.vs k cs hk
       have hlt:=lt_of_some hcur
       have hx:c.O γ (γ.vb k)=some .x:=by
        rw [hOc,hO]
        show c.rb.f (.v k)=_
        have:idxO k 0 c.ar.κ=none:=by
         cases hi:idxO k 0 c.ar.κ with
         | none=>rfl
         | some i=>exact absurd (List.mem_of_getElem? (idxO_get hi).2) hkκ
        simp only [Rb.f,CallI.rb,this]
       refine ⟨hvb k ?_,by show O' _=_; rw [hO1' _ ⟨hlt,.inr hx⟩,hO],(hblk _ hlt (.inr (.inr hx))).2⟩
       cases hnp:npv with
       | none=>exact .inl rfl
       | some p =>
        right
        obtain ⟨cv,g⟩:=p
        obtain ⟨cs',cur',e',e1,_⟩:=hnpv.2 cv g hnp
        rintro rfl
        rw [e1] at hzn; simp [lkZ] at hzn
      ·cases hnp:npv with
       | none=>exact (hnpv.1 hnp).2.2 _ _ hfits.right.right keep0
       | some p =>
        obtain ⟨cv,g⟩:=p
        obtain ⟨cs',cur,e,e1,e2,e3,e4,e5,e6,e7,e8⟩:=hnpv.2 cv g hnp
        rw [e3]
        refine ⟨⟨cs',by rw [app_v,hvsδ,e1,lkZ_append]; simp [lkZ]⟩,?_⟩
        rw [e5]
        show _=Value.pointer (some ⟨npVb npv (1000+d) γ.vb (1000+d),0,none⟩)
        rw [hnp]; simp [npVb]
end Go.Soft
namespace Go.Soft
open Go
variable {X:Ctx} {R:Type} {E:Env R} {L:Live} {lp:Loop R}
theorem Uni.none {α:Type}:Uni (fun _:α->Option R=>Option.none):=⟨Option.none,fun _=>rfl⟩
theorem Uni.one {α:Type} (x:α):Uni (fun k:α->Option R=>k x):=⟨some x,fun _=>rfl⟩
theorem Uni.map {α β:Type} {T:(α->Option R)->Option R} (h:Uni T) (f:α->β):Uni (fun k:β->Option R=>T fun x=>k (f x)):=by
 obtain ⟨o,ho⟩:=h
 refine ⟨o.map f,fun k=> ?_⟩
 show T _=_
 rw [ho]; cases o<;>rfl
theorem Uni.bind {α β:Type} {T:(α->Option R)->Option R} (h:Uni T) {F:α->(β->Option R)->Option R} (hF:∀ x,Uni (F x)):Uni (fun k=>T fun x=>F x k):=by
 obtain ⟨o,ho⟩:=h
 cases o with
 | none=>exact ⟨Option.none,fun k=>by show T _=_; rw [ho]; rfl⟩
 | some x=>obtain ⟨o',ho'⟩:=hF x; exact ⟨o',fun k=>by show T _=_; rw [ho]; exact ho' k⟩
theorem Uni.chk {α:Type} {T:(α->Option R)->Option R} (h:Uni T) (c:Bool):Uni (fun k=>Soft.chk c (T k)):=by
 cases c with
 | true=>exact h
 | false=>exact Uni.none
theorem selC_eq {q:Bool} {x y z:Ct} (h:selC q x y=some z):z=bif q then x else y:=by
 revert h; unfold selC; split
 ·intro h; cases h; cases q<;>rfl
 ·intro h; cases h; cases q<;>rfl
 ·split
  ·rename_i hk
   intro h; cases h
   rw [kEq_eq hk]; cases q<;>rfl
  ·intro h; cases h
 ·intro h; cases h; cases q<;>rfl
 ·rename_i τ x σ y
  cases ha:appT σ τ [] y with
  | none=>intro h; cases h
  | some z' =>
   intro h; cases h
   obtain ⟨e,hz⟩:=appT_inv ha
   subst e
   cases q
   ·show Ct.l _ z'=Ct.l _ y; rw [hz]; rfl
   ·rfl
 ·intro h; cases h
theorem selCs_eq {q:Bool}:∀ {x y z:List Ct},selCs q x y=some z->z=bif q then x else y
 | [],[],z,h=>by cases h; cases q<;>rfl
 | [],_::_,_,h=>by cases h
 | _::_,[],_,h=>by cases h
 | a::l,b::m,z,h=>by
  simp only [selCs] at h
  revert h; split
  ·rename_i u v h1 h2
   intro h; cases h
   rw [selC_eq h1,selCs_eq h2]; cases q<;>rfl
  ·intro h; cases h
theorem selVs_eq {q:Bool}:∀ {x y z:List (List Ct)},selVs q x y=some z->z=bif q then x else y
 | [],[],z,h=>by cases h; cases q<;>rfl
 | [],_::_,_,h=>by cases h
 | _::_,[],_,h=>by cases h
 | a::l,b::m,z,h=>by
  simp only [selVs] at h
  revert h; split
  ·rename_i u v h1 h2
   intro h; cases h
   rw [selCs_eq h1,selVs_eq h2]; cases q<;>rfl
  ·intro h; cases h
theorem selRc_eq {q:Bool} {x y z:Rc} (h:selRc q x y=some z):z=bif q then x else y:=by
 revert h; unfold selRc; split
 ·split
  ·rename_i h1; intro h; cases h; rw [selC_eq h1]; cases q<;>rfl
  ·intro h; cases h
 ·split
  ·rename_i h1; intro h; cases h; rw [selC_eq h1]; cases q<;>rfl
  ·intro h; cases h
 ·intro h; cases h; cases q<;>rfl
 ·intro h; cases h
theorem selRcs_eq {q:Bool}:∀ {x y z:List Rc},selRcs q x y=some z->z=bif q then x else y
 | [],[],z,h=>by cases h; cases q<;>rfl
 | [],_::_,_,h=>by cases h
 | _::_,[],_,h=>by cases h
 | a::l,b::m,z,h=>by
  simp only [selRcs] at h
  revert h; split
  ·rename_i u v h1 h2
   intro h; cases h
   rw [selRc_eq h1,selRcs_eq h2]; cases q<;>rfl
  ·intro h; cases h
theorem selRts_eq {q:Bool}:∀ {x y z:List (Bool×List Rc)},selRts q x y=some z->z=bif q then x else y
 | [],[],z,h=>by cases h; cases q<;>rfl
 | [],_::_,_,h=>by cases h
 | _::_,[],_,h=>by cases h
 | (b,x)::l,(c,y)::m,z,h=>by
  simp only [selRts] at h
  revert h; split
  ·rename_i u v h0 h1 h2
   have hbc:b=c:=by revert h0; cases b<;>cases c<;>simp
   subst hbc
   intro h; cases h
   rw [selRcs_eq h1,selRts_eq h2]; cases q<;>rfl
  ·intro h; cases h
theorem selRC_eq {q:Bool} {x y z:RC} (h:selRC q x y=some z):z=bif q then x else y:=by
 revert h; unfold selRC; split
 ·intro h; cases h; cases q<;>rfl
 ·split
  ·rename_i h1; intro h; cases h; rw [selRc_eq h1]; cases q<;>rfl
  ·intro h; cases h
 ·split
  ·rename_i h1; intro h; cases h; rw [selRcs_eq h1]; cases q<;>rfl
  ·intro h; cases h
 ·split
  ·rename_i h1; intro h; cases h; rw [selRts_eq h1]; cases q<;>rfl
  ·intro h; cases h
 ·intro h; cases h
theorem selR_eq {q:Bool} {x y z:CR} (h:selR q x y=some z):z=bif q then x else y:=by
 revert h; unfold selR; split
 ·rename_i h1 h2 h3
  intro h; cases h
  rw [selRC_eq h1,selVs_eq h2,selCs_eq h3]; cases q<;>rfl
 ·intro h; cases h
theorem Uni.gcall {α:Type} {f:(CR->Option R)->Option R} (hf:Uni f) (p:List (Nat×Bool)) (q:Bool) (d:CR) {F:CR->(α->Option R)->Option R} (hF:∀ x,Uni (F x)):Uni (fun k=>Soft.gcall p q f d fun x=>F x k):=by
 cases p with
 | nil=>exact hf.bind hF
 | cons a p =>
  exact hf.bind (F:=fun cr k=>match selR q cr d with | some c=>F c k | Option.none=>Option.none) fun cr=>by
   cases selR q cr d with
   | none=>exact Uni.none
   | some c=>exact hF c
theorem runOp_uni (hE:∀ f acs vin,Uni (E.fn f acs vin)) (ops:Array Oper) (s:St) (o:Oper) :
  Uni (fun k:List (Nat×Bool)×Bool×AV×Dl->Option R=>runOp X E ops s o fun p q v δ=>k (p,q,v,δ)):=by
 simp only [runOp]
 cases hg:guardP ops s o.guard with
 | none=>exact Uni.none
 | some pq =>
  obtain ⟨p,q⟩:=pq
  simp only
  split
  ·split
   ·split
    ·exact Uni.none
    ·split
     ·exact Uni.none
     ·split
      ·refine Uni.gcall (hE _ _ _) _ _ _ fun cr=> ?_
       split
       ·exact Uni.none
       ·split
        ·exact Uni.one _
        ·exact Uni.none
      ·exact Uni.none
   ·exact Uni.none
  ·split
   ·exact Uni.none
   ·exact Uni.one _
   ·exact Uni.chk (Uni.one _) _
   ·split
    ·exact Uni.one _
    ·exact Uni.none
   ·split
    ·exact Uni.chk (Uni.one _) _
    ·exact Uni.none
theorem execOps_uni (hE:∀ f acs vin,Uni (E.fn f acs vin)) (ops:Array Oper) (draw:Bool):∀ (l:List Oper) (s:St) (fp:List Fp),Uni (fun k:St×List Fp->Option R=>execOps X E ops draw l s fp fun s f=>k (s,f))
 | [],s,fp=>Uni.one _
 | o::l,s,fp=>by
  simp only [execOps]
  cases draw with
  | false=>exact (runOp_uni hE ops s o).bind (F:=fun x k=>execOps X E ops false l ((s.app x.2.2.2).put o.dst (gd x.1 x.2.1 x.2.2.1)) fp fun s f=>k (s,f)) fun x=>execOps_uni hE ops false l _ _
  | true =>
   exact (runOp_uni hE ops (s.cut ops o) o).bind (F:=fun x k=>execOps X E ops true l ((s.app x.2.2.2).put o.dst (gd x.1 x.2.1 x.2.2.1)) (fp++[fpOf ops s o x.2.2.1 x.2.2.2]) fun s f=>k (s,f))
    fun x=>execOps_uni hE ops true l _ _
theorem execReg_uni (hE:∀ f acs vin,Uni (E.fn f acs vin)) (ops:Array Oper) (draw:Bool) (s:St):Uni (fun k:St->Option R=>execReg X E ops draw s k):=by
 simp only [execReg]
 split
 ·exact Uni.none
 ·cases draw with
  | false=>exact (execOps_uni (X:=X) hE ops false ops.toList s []).map (fun x:St×List Fp=>(⟨dropGs x.1.tm,x.1.vs,x.1.rs⟩:St))
  | true =>
   refine (execOps_uni (X:=X) hE ops true ops.toList s []).bind (F:=fun (x:St×List Fp) (k:St->Option R)=>match edgeLt 0 ops.toList&&(gdAnc (ancs [] ops.toList) 0 ops.toList&&apartAll (ancs [] ops.toList) 0 [] x.2) with
    | true=>k ⟨dropGs x.1.tm,x.1.vs,x.1.rs⟩
    | false=>Option.none) fun x=> ?_
   split
   ·exact Uni.one _
   ·exact Uni.none
theorem exec_uni (hE:∀ f acs vin,Uni (E.fn f acs vin)) (hL:∀ c i l,Uni (fun k:Ex×St->Option R=>lp c i l fun e s=>k (e,s))):∀ (c:Code) (s:St),Uni (fun k:Ex×St->Option R=>exec X E L lp c s fun e s=>k (e,s))
 | .skip,s=>Uni.one _
 | .region _ ops draw,s=>(execReg_uni hE ops draw s).map fun s=>(Ex.normal,s)
 | .seq a b,s=>by
  simp only [exec]
  refine (exec_uni hE hL a s).bind (F:=fun x k=>match x.1 with
   | .normal=>exec X E L lp b x.2 fun e s=>k (e,s)
   | e=>k (e,x.2)) fun x=> ?_
  obtain ⟨e,s'⟩:=x
  cases e with
  | normal=>exact exec_uni hE hL b s'
  | _=>exact Uni.one _
 | .cond c a b,s=>by
  simp only [exec]
  split
  ·rename_i x _
   cases x with
   | true=>exact exec_uni hE hL a s
   | false=>exact exec_uni hE hL b s
  ·exact Uni.none
 | .block id c,s=>by
  simp only [exec]
  refine (exec_uni hE hL c s).bind (F:=fun x k=>match x.1 with
   | .exit i=>match Nat.beq i id with
    | true=>k (.normal,x.2)
    | false=>k (x.1,x.2)
   | e=>k (e,x.2)) fun x=> ?_
  obtain ⟨e,s'⟩:=x
  cases e with
  | exit i =>
   simp only
   split
   ·exact Uni.one _
   ·exact Uni.one _
  | _=>exact Uni.one _
 | .loop c,s=>by
  simp only [exec]
  split
  ·exact Uni.none
  ·split
   ·exact hL _ _ _
   ·exact Uni.none
 | .exit id,s=>Uni.one _
 | .ret,s=>Uni.one _
 | .rangeFunc ..,s=>Uni.none
 | .scope _,s=>Uni.none
 | .label _,s=>Uni.none
 | .goto _,s=>Uni.none
 | .refuse _,s=>Uni.none
theorem round_uni (hE:∀ f acs vin,Uni (E.fn f acs vin)) (hL:∀ c i l,Uni (fun k:Ex×St->Option R=>lp c i l fun e s=>k (e,s))) (c:Code) (i:Nat) (l:List Val) :
  Uni (fun k:Ex×St->Option R=>round X E L lp c i l fun e s=>k (e,s)):=by
 simp only [round]
 split
 ·exact Uni.none
 ·rename_i A _
  split
  ·exact Uni.none
  ·rename_i s _
   refine (exec_uni hE hL c s).bind (F:=fun x k=>match x.1 with
    | .normal=>exec X E L lp (.loop c) x.2 fun e s=>k (e,s)
    | e=>k (e,A.leave e x.2)) fun x=> ?_
   obtain ⟨e,s'⟩:=x
   cases e with
   | normal=>exact exec_uni hE hL (.loop c) s'
   | _=>exact Uni.one _
end Go.Soft
namespace Go.Soft
open Go
variable {X:Ctx} {m M:Lk} {γ γ':Gh} {w w':World} {ρ:Operand->Value} {S:St} {δ:Dl}
theorem le1_hd {ms:List Nat} (h:le1s.le1 ms=true):(hd ms=0\/hd ms=1)/\le1s.le1 (tl ms)=true:=by
 cases ms with
 | nil=>exact ⟨.inl rfl,rfl⟩
 | cons x l =>
  simp only [le1s.le1,Bool.and_eq_true] at h
  have:=Nat.le_of_ble_eq_true h.1
  exact ⟨by simp only [hd]; omega,h.2⟩
theorem le1s_hd {vl:List (List Nat)} (h:le1s vl=true):le1s.le1 (hdL vl)=true/\le1s (tl vl)=true:=by
 cases vl with
 | nil=>exact ⟨rfl,rfl⟩
 | cons x l=>simp only [le1s,Bool.and_eq_true] at h; exact h
theorem ownRows_le1:∀ {cs:List Cv} {ms:List Nat} {k b:List Nat},le1s.le1 ms=true->m.ownRows ms cs=some (k,b)->k=[]
 | [],ms,k,b,_,h=>by simp only [Lk.ownRows,Option.some.injEq,Prod.mk.injEq] at h; exact h.1.symm
 | c::cs,ms,k,b,hl,h=>by
  simp only [Lk.ownRows] at h
  obtain ⟨h0,h1⟩:=le1_hd hl
  cases hr:m.ownRows (tl ms) cs with
  | none=>simp [hr] at h
  | some p =>
   obtain ⟨k0,b0⟩:=p
   have ih:=ownRows_le1 h1 hr
   simp only [hr] at h
   rcases h0 with h0 | h0<;>simp only [h0] at h<;>cases hrow:c.row<;>simp only [hrow,Option.some.injEq,Prod.mk.injEq] at h<;>rw [← h.1,ih]
theorem ownRowsOf_le1:∀ {κ:List Nat} {vl:List (List Nat)} {k b:List Nat},le1s vl=true->m.ownRowsOf vl κ=some (k,b)->k=[]
 | [],vl,k,b,_,h=>by simp only [Lk.ownRowsOf,Option.some.injEq,Prod.mk.injEq] at h; exact h.1.symm
 | v::κ,vl,k,b,hl,h=>by
  obtain ⟨l1,l2⟩:=le1s_hd hl
  simp only [Lk.ownRowsOf] at h
  cases hv:m.v v with
  | none=>simp [hv] at h
  | some cs =>
   cases h1:m.ownRows (hdL vl) cs with
   | none=>simp [hv,h1] at h
   | some p =>
    cases h2:m.ownRowsOf (tl vl) κ with
    | none=>simp [hv,h1,h2] at h
    | some q =>
     obtain ⟨a1,b1⟩:=p
     obtain ⟨a2,b2⟩:=q
     simp only [hv,h1,h2,Option.some.injEq,Prod.mk.injEq] at h
     rw [← h.1,ownRows_le1 l1 h1,ownRowsOf_le1 l2 h2]; rfl
theorem skip_cells (hR:Rel X S.lk γ w) {f:Cv->Cv} {v:Nat}:∀ {cs:List Cv} {ms:List Nat} {j:Nat} {l:List Ct} {cs':List Cv} {rs:List (Nat×Row)},le1s.le1 ms=true->m.cts cs=some l->cellsNew f v j ms cs l=some (cs',rs) ->
  rs=[]/\∀ (m':Lk) (γ':Gh) (u:List Value),(∀ x v,RelC S.lk γ x v->RelC m' γ' (f x) v)->RelL S.lk γ cs u->RelL m' γ' cs' u
 | [],ms,j,l,cs',rs,_,hc,h=>by
  simp only [Lk.cts,Option.some.injEq] at hc; subst hc
  simp only [cellsNew,Option.some.injEq,Prod.mk.injEq] at h; obtain ⟨rfl,rfl⟩:=h
  exact ⟨rfl,fun m' γ' u _ hu=>by cases hu; exact .nil⟩
 | c::cs,ms,j,l,cs',rs,hl,hc,h=>by
  simp only [Lk.cts] at hc
  cases h1:m.ct c with
  | none=>simp [h1] at hc
  | some y =>
   cases h2:m.cts cs with
   | none=>simp [h1,h2] at hc
   | some ys =>
    simp only [h1,h2,Option.some.injEq] at hc; subst hc
    simp only [cellsNew] at h
    cases hrest:cellsNew f v (j+1) (tl ms) cs ys with
    | none=>simp [hrest] at h
    | some p =>
     obtain ⟨cs2,rs2⟩:=p
     simp only [hrest] at h
     obtain ⟨l0,l1⟩:=le1_hd hl
     obtain ⟨ih1,ih2⟩:=skip_cells hR l1 h2 hrest
     rcases l0 with l0 | l0
     ·simp only [l0] at h
      cases hf:flatC y with
      | none=>simp [hf] at h
      | some x =>
       simp only [hf,Option.some.injEq,Prod.mk.injEq] at h
       obtain ⟨rfl,rfl⟩:=h
       refine ⟨ih1,fun m' γ' u hk hu=> ?_⟩
       cases hu with
       | cons hx hl =>
        refine .cons (flatC_rel hf ?_) (ih2 m' γ' _ hk hl)
        by_cases hyu:y= .u
        ·subst hyu; exact .inl ⟨rfl,hx.one hR⟩
        ·right
         refine ⟨hyu,?_⟩
         have hnl:∀ τ xs,y≠ .l τ xs:=by rintro τ xs rfl; simp [flatC] at hf
         have:=ct_flat (M:=S.lk) (γ:=γ) h1 hyu hnl
         rw [this] at hx; exact hx
     ·simp only [l0,Option.some.injEq,Prod.mk.injEq] at h
      obtain ⟨rfl,rfl⟩:=h
      refine ⟨ih1,fun m' γ' u hk hu=> ?_⟩
      cases hu with
      | cons hx hl=>exact .cons (hk _ _ hx) (ih2 m' γ' _ hk hl)
theorem skip_vars (hm:Le m S.lk) (hR:Rel X S.lk γ w) {f:Cv->Cv}:∀ {κ:List Nat} {vl:List (List Nat)} {vin:List (List Ct)} {vs:List (Nat×List Cv)} {rs:List (Nat×Row)},le1s vl=true->m.vins vl κ=some vin->m.varsNew f vl κ vin=some (vs,rs) ->
  rs=[]/\∀ v cs',(v,cs')∈vs->∃ cs,S.lk.v v=some cs/\∀ (m':Lk) (γ':Gh) (u:List Value),(∀ x v,RelC S.lk γ x v->RelC m' γ' (f x) v)->RelL S.lk γ cs u->RelL m' γ' cs' u
 | [],vl,vin,vs,rs,_,hi,h=>by
  simp only [Lk.vins,Option.some.injEq] at hi; subst hi
  simp only [Lk.varsNew,Option.some.injEq,Prod.mk.injEq] at h; obtain ⟨rfl,rfl⟩:=h
  exact ⟨rfl,fun v cs' hm=>by simp at hm⟩
 | v::κ,vl,vin,vs,rs,hl,hi,h=>by
  obtain ⟨l1,l2⟩:=le1s_hd hl
  simp only [Lk.vins] at hi
  cases hv:m.v v with
  | none=>simp [hv] at hi
  | some cs =>
   cases hb:Nat.ble cs.length 63 with
   | false=>simp [hv,hb] at hi
   | true =>
    cases hc:m.cts cs with
    | none=>simp [hv,hb,hc] at hi
    | some l =>
     cases hr:m.vins (tl vl) κ with
     | none=>simp [hv,hb,hc,hr] at hi
     | some r =>
      simp only [hv,hb,hc,hr,Option.some.injEq] at hi; subst hi
      simp only [Lk.varsNew,hv] at h
      cases h1:cellsNew f v 0 (hdL vl) cs l with
      | none=>simp [h1] at h
      | some p =>
       cases h2:m.varsNew f (tl vl) κ r with
       | none=>simp [h1,h2] at h
       | some q =>
        obtain ⟨a1,r1⟩:=p
        obtain ⟨b1,q1⟩:=q
        simp only [h1,h2,Option.some.injEq,Prod.mk.injEq] at h
        obtain ⟨rfl,rfl⟩:=h
        obtain ⟨e1,e2⟩:=skip_cells hR l1 hc h1
        obtain ⟨e3,e4⟩:=skip_vars hm hR l2 hr h2
        refine ⟨by rw [e1,e3]; rfl,fun u cs' hmm=> ?_⟩
        rcases List.mem_cons.1 hmm with hmm | hmm
        ·cases hmm; exact ⟨cs,hm.v _ _ hv,e2⟩
        ·exact e4 u cs' hmm
theorem nilCt_l {τ:Ty} {xs:List (El τ)} (h:nilCt (.l τ xs)=true):xs=[]:=by cases xs<;>simp_all [nilCt]
theorem skip_resCs {f:Cv->Cv} {as:List AV} {imm:Bool}:∀ {ys:List Rc} {k:Nat} {ms:List Nat} {cs:List Cv} {rs:List (Nat×Row)},nilRcs ys=true->resCs f as imm k ms ys=some (cs,rs)->(∀ p∈rs,p.2.xs=[])/\∀ x∈keys rs,k<=x/\x<k+ys.length
 | [],k,ms,cs,rs,_,h=>by simp only [resCs,Option.some.injEq,Prod.mk.injEq] at h; obtain ⟨rfl,rfl⟩:=h; simp [keys]
 | y::ys,k,ms,cs,rs,hn,h=>by
  simp only [resCs] at h
  cases hrest:resCs f as imm (k+1) (tl ms) ys with
  | none=>simp [hrest] at h
  | some p =>
   obtain ⟨cs2,rs2⟩:=p
   simp only [hrest] at h
   have hys:nilRcs ys=true:=by cases y<;>simp_all [nilRcs]
   obtain ⟨i1,i2⟩:=skip_resCs hys hrest
   have plain:rs=rs2->(∀ p∈rs,p.2.xs=[])/\∀ x∈keys rs,k<=x/\x<k+(y::ys).length:=by
    rintro rfl; exact ⟨i1,fun x hx=>by have:=i2 x hx; simp only [List.length_cons]; omega⟩
   have more:∀ row:Row,row.xs=[]->rs=(k,row)::rs2->(∀ p∈rs,p.2.xs=[])/\∀ x∈keys rs,k<=x/\x<k+(y::ys).length:=by
    rintro row hrow rfl
    refine ⟨fun p hp=> ?_,fun x hx=> ?_⟩
    ·rcases List.mem_cons.1 hp with rfl | hp
     ·exact hrow
     ·exact i1 p hp
    ·simp only [keys,List.mem_cons] at hx
     simp only [List.length_cons]
     rcases hx with rfl | hx
     ·omega
     ·have:=i2 x hx; omega
   cases y with
   | m y =>
    simp only [nilRcs,Bool.and_eq_true] at hn
    cases y with
    | l τ xs =>
     simp only at h
     cases imm with
     | true=>simp only [Option.some.injEq,Prod.mk.injEq] at h; exact more _ (nilCt_l hn.1) h.2.symm
     | false=>simp only [Option.some.injEq,Prod.mk.injEq] at h; exact plain h.2.symm
    | _=>simp only [flatC,Option.some.injEq,Prod.mk.injEq] at h; exact plain h.2.symm
   | c y =>
    simp only [nilRcs,Bool.and_eq_true] at hn
    cases y with
    | l τ xs=>simp only [Option.some.injEq,Prod.mk.injEq] at h; exact more _ (nilCt_l hn.1) h.2.symm
    | _=>simp only [flatC,Option.some.injEq,Prod.mk.injEq] at h; exact plain h.2.symm
   | _=>simp [nilRcs] at hn
theorem skip_resTs {f:Cv->Cv} {as:List AV} {imm:Bool}:∀ {ys:List (Bool×List Rc)} {k:Nat} {ms:List (List Nat)} {ts:List (Bool×List Cv)} {rs:List (Nat×Row)},nilRts ys=true->resTs f as imm k ms ys=some (ts,rs) ->
  (∀ p∈rs,p.2.xs=[])/\∀ x∈keys rs,k<=x/\x<k+rtsN ys
 | [],k,ms,ts,rs,_,h=>by simp only [resTs,Option.some.injEq,Prod.mk.injEq] at h; obtain ⟨rfl,rfl⟩:=h; simp [keys]
 | (b,l)::ys,k,ms,ts,rs,hn,h=>by
  simp only [nilRts,Bool.and_eq_true] at hn
  simp only [resTs] at h
  cases h1:resCs f as imm k (hdL ms) l with
  | none=>simp [h1] at h
  | some p =>
   cases h2:resTs f as imm (k+l.length) (tl ms) ys with
   | none=>simp [h1,h2] at h
   | some q =>
    obtain ⟨cs1,rs1⟩:=p
    obtain ⟨ts2,rs2⟩:=q
    simp only [h1,h2,Option.some.injEq,Prod.mk.injEq] at h
    obtain ⟨rfl,rfl⟩:=h
    obtain ⟨a1,a2⟩:=skip_resCs hn.1 h1
    obtain ⟨b1,b2⟩:=skip_resTs hn.2 h2
    refine ⟨fun p hp=>(List.mem_append.1 hp).elim (a1 p) (b1 p),fun x hx=> ?_⟩
    rw [keys_append,List.mem_append] at hx
    simp only [rtsN,rcsN_len]
    rcases hx with hx | hx
    ·have:=a2 x hx; omega
    ·have:=b2 x hx; omega
theorem skip_resA {f:Cv->Cv} {as:List AV} {imm:Bool} {rl:List (List Nat)} {d:Nat} {res:RC} {av:AV} {rs:List (Nat×Row)} {vn:List (Nat×List Cv)} (hn:drOk res=true) (h:resA f as imm rl d res=some (av,rs,vn)) :
  vn=[]/\res.kv d=[]/\(∀ p∈rs,p.2.xs=[])/\∀ x∈keys rs,x∈res.keys d:=by
 cases res with
 | u=>simp only [resA,Option.some.injEq,Prod.mk.injEq] at h; obtain ⟨_,rfl,rfl⟩:=h; simp [keys,RC.kv]
 | c x =>
  simp only [resA] at h
  cases h1:resCs f as imm (d*64) (hdL rl) [x] with
  | none=>simp [h1] at h
  | some p =>
   obtain ⟨cs,rs1⟩:=p
   obtain ⟨a1,a2⟩:=skip_resCs hn h1
   simp only [h1] at h
   revert h; split
   ·rename_i heq
    simp only [Option.some.injEq,Prod.mk.injEq] at heq
    obtain ⟨rfl,rfl⟩:=heq
    intro h; simp only [Option.some.injEq,Prod.mk.injEq] at h; obtain ⟨_,rfl,rfl⟩:=h
    refine ⟨rfl,rfl,a1,fun x hx=> ?_⟩
    have:=a2 x hx
    simp only [RC.keys,List.mem_singleton]; simp at this; omega
   ·intro h; cases h
 | a l =>
  simp only [resA] at h
  cases h1:resCs f as imm (d*64) (hdL rl) l with
  | none=>simp [h1] at h
  | some p =>
   obtain ⟨cs,rs1⟩:=p
   obtain ⟨a1,a2⟩:=skip_resCs hn h1
   simp only [h1,Option.some.injEq,Prod.mk.injEq] at h
   obtain ⟨_,rfl,rfl⟩:=h
   exact ⟨rfl,rfl,a1,fun x hx=>by simp only [RC.keys,rcsN_len,upK_mem]; exact a2 x hx⟩
 | t l =>
  simp only [resA] at h
  cases h1:resTs f as imm (d*64) rl l with
  | none=>simp [h1] at h
  | some p =>
   obtain ⟨ts,rs1⟩:=p
   obtain ⟨a1,a2⟩:=skip_resTs hn h1
   simp only [h1,Option.some.injEq,Prod.mk.injEq] at h
   obtain ⟨_,rfl,rfl⟩:=h
   exact ⟨rfl,rfl,a1,fun x hx=>by simp only [RC.keys,upK_mem]; exact a2 x hx⟩
 | np l=>simp [drOk] at hn
theorem skip_ok (hR:Rel X S.lk γ w) (htop:∀ g,w.heap.size<=g->γ.O g=none) (hm:Le m S.lk) {g:Sig} {avs:List AV} {ar:AR} {vin:List (List Ct)} {ow b:List Nat} {d:Nat} (hd:d<1500) {av:AV}
  (hvins:m.vins g.vl ar.κ=some vin) (hhand:m.handed g ar=some (ow,b)) (ha:m.after g avs ar ⟨g.dr,vin,m.ioCs ar.io⟩ ow d=some (av,δ))
  (hl:le1s g.vl=true) (hdr:drOk g.dr=true) (hgo:ar.gone=[]) (hio:ar.io=[]) (hfz:ar.fz=[]):∃ γ',Step X S γ w δ γ' w:=by
 have how:ow=[]:=by
  simp only [Lk.handed] at hhand
  cases ho:m.ownRowsOf g.vl ar.κ with
  | none=>simp [ho] at hhand
  | some p =>
   obtain ⟨ow',b'⟩:=p
   have:=ownRowsOf_le1 hl ho
   simp only [ho] at hhand
   revert hhand; split
   ·intro h; simp only [Option.some.injEq,Prod.mk.injEq] at h; rw [← h.1,this]
   ·intro h; cases h
 subst how
 simp only [Lk.after] at ha
 obtain ⟨δ0,hδ0⟩:∃ δ0,m.dl0 ar g.dr [] d=δ0:=⟨_,rfl⟩
 rw [hδ0] at ha
 cases h1:m.varsNew δ0.map g.vl ar.κ vin with
 | none=>simp [h1] at ha
 | some p1 =>
  obtain ⟨vs,r1⟩:=p1
  cases h2:m.ioNew ar.io (m.ioCs ar.io) with
  | none=>simp [h1,h2] at ha
  | some r2 =>
   cases h3:resA δ0.map avs ar.imm g.rl d g.dr with
   | none=>simp [h1,h2,h3] at ha
   | some p3 =>
    obtain ⟨av',r3,vn⟩:=p3
    simp only [h1,h2,h3] at ha
    cases hn1:nodupN (ar.gone++(keys r1++(keys r2++keys r3)))&&allLt 100000 (g.dr.keys d) with
    | false=>simp [hn1] at ha
    | true =>
     cases hn2:disjN ar.fz (keys r1++(keys r2++keys r3)) with
     | false=>simp [hn1,hn2] at ha
     | true =>
      simp only [hn1,hn2,Option.some.injEq,Prod.mk.injEq] at ha
      obtain ⟨rfl,hδ⟩:=ha
      obtain ⟨e1,q1⟩:=skip_vars hm hR hl hvins h1
      obtain ⟨e3,e4,e5,e6⟩:=skip_resA hdr h3
      have e2:r2=[]:=by
       rw [hio] at h2
       simp only [Lk.ioCs,Lk.ioNew,Option.some.injEq] at h2; exact h2.symm
      subst e1; subst e2; subst e3
      simp only [Bool.and_eq_true] at hn1
      have hn3:=allLt_iff.1 hn1.2
      have hn1:=nodupN_iff.1 hn1.1
      simp only [hgo,keys,List.nil_append] at hn1
      have hmap:δ.map=δ0.map:=by rw [← hδ]; funext x; cases x<;>rfl
      have hvsδ:δ.vs=vs:=by rw [← hδ]; simp
      have hkr:δ.kr=g.dr.keys d++m.homesOf ar.κ:=by rw [← hδ,← hδ0]; simp [Lk.dl0,hgo]
      have hkvδ:δ.kv=[]:=by rw [← hδ,← hδ0]; exact e4
      have hmv:δ.mv=[]:=by rw [← hδ,← hδ0]; rfl
      have hlk:∀ k,lkZ δ.rs k=(lk r3 k).map some:=by
       intro k
       rw [← hδ]
       show lkZ (nones ar.gone++(m.frz ar.fz++(somes []++(somes []++somes r3)))) k=_
       rw [hgo,hfz]
       simp only [nones,Lk.frz,somes,List.nil_append]
       exact lkZ_somes hn1 k
      let γ':Gh:=⟨γ.O,fun k=>match lk r3 k with | some _=> .slice none 0 0 | none=>γ.rv k,fun k=>match lk r3 k with | some _=>[] | none=>γ.cv k,γ.vb⟩
      have hrv:∀ k,lk r3 k=none->γ'.rv k=γ.rv k/\γ'.cv k=γ.cv k:=by
       intro k hk
       constructor
       ·show (match lk r3 k with | some _=>Value.slice none 0 0 | none=>γ.rv k)=_; rw [hk]
       ·show (match lk r3 k with | some _=>[] | none=>γ.cv k)=_; rw [hk]
      have hnk:∀ r,hasN r δ.kr=false->lk r3 r=none:=by
       intro r hr
       rw [lk_none]
       intro hm'
       have:r∈δ.kr:=by rw [hkr]; exact List.mem_append_left _ (e6 r hm')
       rw [hasN_iff.2 this] at hr; cases hr
      have hsame:∀ r,lk r3 r=none->(S.app δ).lk.r r=S.lk.r r:=by
       intro r hr; rw [app_r,hlk,hr]; rfl
      have keep:∀ x v,RelC S.lk γ x v->RelC (S.app δ).lk γ' (δ.map x) v:=by
       refine keep_of hR hmv (fun r row hr hk=> ?_) (fun r row row' hr hk _ hr'=> ?_) (fun r hk _ _=>⟨fun row row' hr hr'=> ?_⟩) (fun k cs hk _=>⟨?_,rfl⟩)
       ·exact ⟨⟨row,by rw [hsame r (hnk r hk)]; exact hr⟩,(hrv r (hnk r hk)).1⟩
       ·rw [hsame r (hnk r hk),hr] at hr'; cases hr'; exact ⟨rfl,Nat.le_refl _⟩
       ·rw [hsame r (hnk r hk),hr] at hr'; cases hr'
        intro e c' τ ys _ hc
        exact ⟨⟨ys,hc,Nat.le_refl _⟩,by rw [(hrv r (hnk r hk)).2]⟩
       ·rw [app_v]
        cases lkZ δ.vs k with
        | some cs'=>exact ⟨cs',rfl⟩
        | none=>simp only [hk,Option.map_some]; exact ⟨_,rfl⟩
      have keep0:∀ x v,RelC S.lk γ x v->RelC (S.app δ).lk γ' (δ0.map x) v:=by rw [← hmap]; exact keep
      refine ⟨γ',⟨⟨fun k cs hk=> ?_,fun k row hk=> ?_⟩,keep,⟨rfl,rfl,rfl,Nat.le_refl _,fun g hg _=>⟨rfl,rfl⟩,htop⟩,fun k row hk _=> ?_,fun k row hk h1'=> ?_,fun k h1' h2'=> ?_,fun _ _=>rfl,fun k cs hk _=>⟨rfl,(hR.vs k cs hk).1,rfl⟩⟩⟩
      ·rw [app_v,hvsδ] at hk
       cases hz:lkZ vs k with
       | none =>
        rw [hz] at hk
        cases hc:S.lk.v k with
        | none=>simp [hc] at hk
        | some cs0 =>
         simp only [hc,Option.map_some,Option.some.injEq] at hk; subst hk
         obtain ⟨hO,cur,e,hcur,hrl⟩:=hR.vs k cs0 hc
         exact ⟨hO,cur,e,hcur,hrl.map keep⟩
       | some cs1 =>
        rw [hz] at hk; simp only [Option.some.injEq] at hk; subst hk
        have hmem:∀ (l:List (Nat×List Cv)),lkZ l k=some cs1->(k,cs1)∈l:=by
         intro l
         induction l with
         | nil=>intro h; simp [lkZ] at h
         | cons p l ih =>
          obtain ⟨j,u⟩:=p
          intro h
          simp only [lkZ] at h
          cases hl:lkZ l k with
          | some u2=>rw [hl] at h; simp only [Option.some.injEq] at h; subst h; exact List.mem_cons_of_mem _ (ih hl)
          | none =>
           rw [hl] at h
           by_cases hj:j=k
           ·simp only [hj,if_true,Option.some.injEq] at h; subst h; subst hj; simp
           ·simp only [hj,if_false] at h; cases h
        obtain ⟨cs,hcs,hq⟩:=q1 k cs1 (hmem vs hz)
        obtain ⟨hO,cur,e,hcur,hrl⟩:=hR.vs k cs hcs
        exact ⟨hO,cur,e,hcur,hq _ _ _ keep0 hrl⟩
      ·rw [app_r,hlk] at hk
       cases hl:lk r3 k with
       | none =>
        rw [hl] at hk
        obtain ⟨a1,a2⟩:=hrv k hl
        rw [a1,a2]; exact hR.rs k row hk
       | some row2 =>
        rw [hl] at hk; simp only [Option.map_some] at hk; cases hk
        have a1:γ'.rv k= .slice none 0 0:=by show (match lk r3 k with | some _=>Value.slice none 0 0 | none=>γ.rv k)=_; rw [hl]
        have a2:γ'.cv k=[]:=by show (match lk r3 k with | some _=>[] | none=>γ.cv k)=_; rw [hl]
        have hxs:=e5 _ (lk_mem hl)
        obtain ⟨τ,xs,ow⟩:=row
        simp only at hxs; subst hxs
        rw [a1,a2]; exact RowR.nil _ _ _ _ _ _
      ·rw [hlk] at hk
       cases hl:lk r3 k with
       | none=>exact hrv k hl
       | some row2=>rw [hl] at hk; cases hk
      ·rw [hlk] at hk
       cases hl:lk r3 k with
       | none=>rw [hl] at hk; cases hk
       | some row2=>exact hn3 k (e6 k (mem_keys (lk_mem hl)))
      ·refine (hrv k ?_).1
       rw [lk_none]; intro hm'
       have:=hn3 k (e6 k hm'); omega
def tv (a:Act) (p:List (Nat×Bool)):Prop:=∀ x∈p,a.tmps.getD x.1 undef= .bool x.2
structure GInv (D:List Nat) (S:St) (a:Act):Prop where
 g:∀ t p q v,lk S.tm t=some (.g p q v)->(∀ x∈p,x.1∈D)/\(q=true↔tv a p)
theorem isPre_tv {a:Act}:∀ {p P:List (Nat×Bool)},isPre p P=true->tv a P->tv a p
 | [],P,_,_=>fun x hx=>by simp at hx
 | (t,x)::p,[],h,_=>by simp [isPre] at h
 | (t,x)::p,(u,y)::P,h,hP=>by
  simp only [isPre,Bool.and_eq_true] at h
  have ht:=nat_beq h.1
  subst ht
  have hxy:x=y:=by cases x<;>cases y<;>simp_all
  subst hxy
  intro z hz
  rcases List.mem_cons.1 hz with rfl | hz
  ·exact hP _ List.mem_cons_self
  ·exact isPre_tv h.2.2 (fun u hu=>hP u (List.mem_cons_of_mem _ hu)) z hz
theorem id_step (hR:Rel X S.lk γ w) (htop:∀ g,w.heap.size<=g->γ.O g=none):Step X S γ w Dl.z γ w:=by
 have e:S.app Dl.z=S:=rfl
 refine ⟨by rw [e]; exact hR,fun x v hx=>by rw [e,map_quiet rfl]; exact hx,⟨rfl,rfl,rfl,Nat.le_refl _,fun _ _ _=>⟨rfl,rfl⟩,htop⟩,fun _ _ _ _=>⟨rfl,rfl⟩,fun k row h=>(by cases h),fun _ _ _=>rfl,fun _ _=>rfl,fun k cs hk _=>⟨rfl,(hR.vs k cs hk).1,rfl⟩⟩
theorem dropG_rel {v:AV} {u:Value} (h:RelA M γ v u):RelA M γ (dropG v) u:=by
 cases v<;>first | exact h | exact trivial
theorem gd_rel {p:List (Nat×Bool)} {q:Bool} {v:AV} {u:Value} (hq:q=true) (h:RelA M γ v u):RelA M γ (gd p q v) u:=by
 cases p with
 | nil=>exact dropG_rel h
 | cons x p=>exact ⟨fun _=>h,fun e=>by rw [hq] at e; cases e⟩
theorem gd_skip {p:List (Nat×Bool)} {v:AV} (hp:p≠[]):RelA M γ (gd p false v) undef:=by
 cases p with
 | nil=>exact absurd rfl hp
 | cons x p=>exact ⟨fun e=>(by cases e),fun _=>rfl⟩
theorem ev_inj {R α:Type} (r0:R) {x y:α} (h:∀ K:α->Option R,K x=K y):x=y:=by
 classical
 have:=h fun z=>if z=x then some r0 else none
 simp only [if_true] at this
 by_cases hy:y=x
 ·exact hy.symm
 ·simp [hy] at this
theorem ev_none {R α:Type} (r0:R) {y:α} (h:∀ K:α->Option R,none=K y):False:=by
 have:=h fun _=>some r0
 simp at this
section
variable {R:Type} {E:Env R} {ops:Array Oper} {s':St} {a:Act} {D:List Nat}
theorem get_some {t:Nat} {v:AV} (h:s'.get t=v) (hv:v≠ .c .un):lk s'.tm t=some v:=by
 simp only [St.get] at h
 cases hl:lk s'.tm t with
 | some u=>simp only [hl] at h; rw [h]
 | none=>simp only [hl] at h; exact absurd h.symm hv
theorem guard_ok (hT:RelT X S γ a) (hG:GInv D S a) (ht:∀ t av,lk s'.tm t=some av->lk S.tm t=some av) {o:Oper} (hgd:∀ j w,o.guard=some (j,w)->∀ oj t,ops[j]? =some oj->oj.dst=some t->t∈D)
  {p:List (Nat×Bool)} {q:Bool} (h:guardP ops s' o.guard=some (p,q)) :
  (∀ x∈p,x.1∈D)/\(q=true↔tv a p)/\Region.wanted o (yielded ops a.tmps)=q/\(p=[]->q=true):=by
 simp only [Region.wanted]
 cases hg:o.guard with
 | none =>
  rw [hg] at h
  simp only [guardP,Option.some.injEq,Prod.mk.injEq] at h
  obtain ⟨rfl,rfl⟩:=h
  exact ⟨by simp,by simp [tv],rfl,fun _=>rfl⟩
 | some jw =>
  obtain ⟨j,want⟩:=jw
  rw [hg] at h
  simp only [guardP] at h
  cases hj:ops[j]? with
  | none=>simp [hj] at h
  | some oj =>
   simp only [hj] at h
   cases hd:oj.dst with
   | none=>simp [hd] at h
   | some t =>
    simp only [hd] at h
    have hD:=hgd j want hg oj t hj hd
    have hy:∀ x,a.tmps.getD t undef= .bool x->yielded ops a.tmps j=some x:=by
     intro x hx
     have:a.tmps[t]? =some (.bool x):=by
      rw [Array.getD_eq_getD_getElem?] at hx
      cases hh:a.tmps[t]? with
      | none=>rw [hh] at hx; cases hx
      | some v=>rw [hh] at hx; simp only [Option.getD_some] at hx; rw [hx]
     simp only [yielded,hj,Option.bind_some,hd,this]
    have hyn:a.tmps.getD t undef=undef->yielded ops a.tmps j=none:=by
     intro hx
     simp only [yielded,hj,Option.bind_some,hd]
     rw [Array.getD_eq_getD_getElem?] at hx
     cases hh:a.tmps[t]? with
     | none=>rfl
     | some v =>
      rw [hh] at hx; simp only [Option.getD_some] at hx; subst hx; rfl
    revert h; split
    ·rename_i x hx
     intro h
     simp only [Option.some.injEq,Prod.mk.injEq] at h
     obtain ⟨rfl,rfl⟩:=h
     have hv:=hT.2 t _ (ht t _ (get_some hx (by simp)))
     have hv:a.tmps.getD t undef= .bool x:=hv
     refine ⟨by simpa using hD,?_,?_,by simp⟩
     ·simp only [tv,List.mem_singleton,forall_eq,hv,Value.bool.injEq]
      cases want<;>cases x<;>simp
     ·show (yielded ops a.tmps j==some want)=_
      rw [hy x hv]; cases want<;>cases x<;>rfl
    ·rename_i p' q' x hx
     intro h
     simp only [Option.some.injEq,Prod.mk.injEq] at h
     obtain ⟨rfl,rfl⟩:=h
     have hl:=ht t _ (get_some hx (by simp))
     obtain ⟨g1,g2⟩:=hG.g t _ _ _ hl
     have hv:=hT.2 t _ hl
     refine ⟨fun y hy=> ?_,?_,?_,by simp⟩
     ·rcases List.mem_append.1 hy with hy | hy
      ·exact g1 y hy
      ·simp at hy; rw [hy]; exact hD
     ·simp only [tv,List.mem_append,List.mem_singleton]
      cases hq:q' with
      | true =>
       have hv:a.tmps.getD t undef= .bool x:=hv.1 hq
       have htv:=g2.1 hq
       constructor
       ·intro h y hy
        rcases hy with hy | hy
        ·exact htv y hy
        ·rw [hy,hv]; cases want<;>cases x<;>simp_all
       ·intro h
        have:=h (t,want) (.inr rfl)
        rw [hv] at this
        simp only [Value.bool.injEq] at this
        subst this; cases x<;>rfl
      | false =>
       have:¬ tv a p':=fun h=>by have:=g2.2 h; rw [hq] at this; cases this
       simp only [Bool.false_and,Bool.false_eq_true,false_iff]
       exact fun h=>this fun y hy=>h y (.inl hy)
     ·cases hq:q' with
      | true =>
       have hv:a.tmps.getD t undef= .bool x:=hv.1 hq
       show (yielded ops a.tmps j==some want)=_
       rw [hy x hv]; cases want<;>cases x<;>rfl
      | false =>
       have hv:a.tmps.getD t undef=undef:=hv.2 hq
       show (yielded ops a.tmps j==some want)=_
       rw [hyn hv]; cases want<;>cases x<;>rfl
    ·intro h; cases h
theorem opnd_g (hT:RelT X S γ a) (hG:GInv D S a) (ht:∀ t av,lk s'.tm t=some av->lk S.tm t=some av) {p:List (Nat×Bool)} (hp:tv a p) (ty:TypeId) (x:Operand):RelA S.lk γ (X.opnd s' p ty x) (a.eval x) :=
 opnd_ok (M:=S.lk) (fun t av h=>hT.2 t av (ht t av h)) p (fun t p' q v h hi=>(hG.g t p' q v (ht t _ h)).2.2 (isPre_tv hi hp)) ty x
theorem callee_run {P:Program} {f:FuncId} (h:Enters P f) (args:Array Value) (w:World):(callFunc f args).run P w= .ok (.enter f args) w:=by
 obtain ⟨fn,h1,h2,h3⟩:=h
 have h2':¬ fn.name = "runtime.NumGoroutine" := by simpa using h2
 have h3':¬ fn.body=none:=by cases hb:fn.body<;>simp_all
 simp [callFunc,h1,h2',h3']
theorem grdOk_inv {p:List (Nat×Bool)} {g:Sig} {ar:AR} {v:AV} (hp:p≠[]) (h:grdOk p g ar v=true):le1s g.vl=true/\drOk g.dr=true/\ar.gone=[]/\ar.io=[]/\ar.fz=[]:=by
 cases p with
 | nil=>exact absurd rfl hp
 | cons x p =>
  simp only [grdOk,Bool.and_eq_true] at h
  obtain ⟨a1,a2,a3⟩:=h
  refine ⟨a1,a2,?_⟩
  revert a3; split
  ·simp
  ·intro _; exact ⟨by assumption,by assumption,by assumption⟩
  ·simp
theorem op_ok (r0:R) (hX:CtxOk X) (hE:EnvOk X E) (hR:Rel X S.lk γ w) (htop:∀ g,w.heap.size<=g->γ.O g=none) (hT:RelT X S γ a) (hG:GInv D S a) (hm:Le s'.lk S.lk)
  (ht:∀ t av,lk s'.tm t=some av->lk S.tm t=some av) {o:Oper} (hnt:X.nt<=1500) (hdst:∀ d,o.dst=some d->d<X.nt) (hgd:∀ j w,o.guard=some (j,w)->∀ oj t,ops[j]? =some oj->oj.dst=some t->t∈D)
  {p:List (Nat×Bool)} {q:Bool} {v:AV} (hop:∀ K:List (Nat×Bool)×Bool×AV×Dl->Option R,(runOp X E ops s' o fun p q v δ=>K (p,q,v,δ))=K (p,q,v,δ)) {next:Act->World->Prop} {Q:Exit->Act->World->Prop}
  (hn:∀ γ' w' u,Step X S γ w δ γ' w'->RelA (S.app δ).lk γ' (gd p q v) u->next (a.put o.dst u) w') :
  ((∀ x∈p,x.1∈D)/\(q=true↔tv a p))/\(if Region.wanted o (yielded ops a.tmps) then o.wp X.P a w next Q else next (a.put o.dst undef) w):=by
 have hd1500:(match o.dst with | some d=>d | none=>0)<1500:=by
  cases hd:o.dst with
  | none=>simp
  | some d=>exact Nat.lt_of_lt_of_le (hdst d hd) hnt
 simp only [runOp] at hop
 cases hg:guardP ops s' o.guard with
 | none=>simp only [hg] at hop; exact (ev_none r0 hop).elim
 | some pq =>
  obtain ⟨p0,q0⟩:=pq
  simp only [hg] at hop
  obtain ⟨g1,g2,g3,g4⟩:=guard_ok hT hG ht hgd hg
  have fin:∀ {v0:AV} {δ0:Dl},(∀ K:List (Nat×Bool)×Bool×AV×Dl->Option R,K (p0,q0,v0,δ0)=K (p,q,v,δ))->p0=p/\q0=q/\v0=v/\δ0=δ:=by
   intro v0 δ0 h
   have:=ev_inj r0 h
   simp only [Prod.mk.injEq] at this
   exact this
  have plain:∀ {v0:AV},(q0=true->Good (stepO X (fun e=>X.opnd s' (p0++e)) s'.lk (match o.dst with | some d=>d | none=>0) o.type o.op) v0) ->
    (∀ K:List (Nat×Bool)×Bool×AV×Dl->Option R,K (p0,q0,v0,Dl.z)=K (p,q,v,δ)) ->
    ((∀ x∈p,x.1∈D)/\(q=true↔tv a p))/\(if Region.wanted o (yielded ops a.tmps) then o.wp X.P a w next Q else next (a.put o.dst undef) w):=fun hgood hK=>by
   obtain ⟨rfl,rfl,rfl,rfl⟩:=fin hK
   refine ⟨⟨g1,g2⟩,?_⟩
   have e:S.app Dl.z=S:=rfl
   rw [g3]
   cases hq:q0 with
   | true =>
    have htv:=g2.1 hq
    obtain ⟨u,hu,hr⟩:=pure_ok hX hm hR (evp:=fun e=>X.opnd s' (p0++e)) (fun ty x=>by rw [List.append_nil]; exact opnd_g hT hG ht htv ty x)
     (fun ty t x xa xb hx=>by
      have hv:=opnd_g hT hG ht htv ty (.tmp t)
      simp only [List.append_nil] at hx
      rw [hx] at hv
      have hv:a.eval (.tmp t)= .bool x:=hv
      have htv2:tv a (p0++[(t,x)]):=by
       intro y hy
       rcases List.mem_append.1 hy with hy | hy
       ·exact htv y hy
       ·simp at hy; rw [hy]; exact hv
      exact ⟨fun hx=>by rw [hx] at htv2; exact opnd_g hT hG ht htv2 ty xa,fun hx=>by rw [hx] at htv2; exact opnd_g hT hG ht htv2 ty xb⟩) (hgood hq)
    simp only [if_true,Oper.wp,hu,Oper.upon]
    exact hn γ w u (id_step hR htop) (by rw [e]; exact gd_rel (by first | rfl | exact hq) hr)
   | false =>
    have hp:p0≠[]:=fun h=>by have:=g4 h; rw [hq] at this; cases this
    simp only [Bool.false_eq_true,if_false]
    exact hn γ w undef (id_step hR htop) (by rw [hq]; exact gd_skip hp)
  have chg:∀ {v0:AV} {δ0:Dl},p0=[]->(stepO X (fun e=>X.opnd s' (p0++e)) s'.lk (match o.dst with | some d=>d | none=>0) o.type o.op= .w0 v0 δ0\/stepO X (fun e=>X.opnd s' (p0++e)) s'.lk (match o.dst with | some d=>d | none=>0) o.type o.op= .w true v0 δ0) ->
    (∀ K:List (Nat×Bool)×Bool×AV×Dl->Option R,K (p0,q0,v0,δ0)=K (p,q,v,δ)) ->
    ((∀ x∈p,x.1∈D)/\(q=true↔tv a p))/\(if Region.wanted o (yielded ops a.tmps) then o.wp X.P a w next Q else next (a.put o.dst undef) w):=fun hp0 hst hK=>by
   obtain ⟨rfl,rfl,rfl,rfl⟩:=fin hK
   refine ⟨⟨g1,g2⟩,?_⟩
   have hq:=g4 hp0
   rw [g3,hq]
   have htv:=g2.1 hq
   obtain ⟨r,u,w',γ',h1,h2,h3,h4⟩:=chg_ok hX hR htop hm (ρ:=a.eval) (fun ty x=>by rw [List.append_nil]; exact opnd_g hT hG ht htv ty x) hd1500 hst
   simp only [if_true,Oper.wp,h1]
   rcases h2 with rfl | ⟨rfl,rfl⟩
   ·simp only [Oper.upon]; exact hn γ' w' u h4 (gd_rel hq h3)
   ·simp only [Oper.upon]; exact hn γ' w' undef h4 (gd_rel hq h3)
  revert hop; split
  ·
   rename_i f args argTypes hcall
   split
   ·rename_i fid caps hfe
    split
    ·intro hop; exact (ev_none r0 hop).elim
    ·rename_i sig hsig
     split
     ·intro hop; exact (ev_none r0 hop).elim
     ·rename_i ar hargs
      split
      ·rename_i vin ow bb hvins hhand hlens
       intro hop
       have hfe:X.opnd s' (p0++[]) 0 f= .c (.fn fid caps):=hfe
       let avs:=fmap (X.opnd s' (p0++[]) 0) args.toList++fmap (fun v=>AV.c (.pv v 0)) caps
       let c:CallI:=⟨s'.lk,sig,avs,ar,vin,ow,bb⟩
       simp only [Bool.and_eq_true] at hlens
       have hok:c.Ok:=⟨hargs,hvins,hhand,Nat.le_of_ble_eq_true hlens.1,Nat.le_of_ble_eq_true hlens.2⟩
       obtain ⟨hfn,hent⟩:=hE.fn fid sig hsig
       have after:∀ cr:CR,(∀ K:List (Nat×Bool)×Bool×AV×Dl->Option R,(match s'.lk.after sig avs ar cr ow (match o.dst with | some d=>d | none=>0) with
         | none=>none
         | some (v,δ)=>match grdOk p0 sig ar v with
          | true=>K (p0,q0,v,δ)
          | false=>none)=K (p,q,v,δ)) ->
         p0=p/\q0=q/\s'.lk.after sig avs ar cr ow (match o.dst with | some d=>d | none=>0)=some (v,δ)/\grdOk p sig ar v=true:=by
        intro cr hK
        cases ha:s'.lk.after sig avs ar cr ow (match o.dst with | some d=>d | none=>0) with
        | none=>simp only [ha] at hK; exact (ev_none r0 hK).elim
        | some vd =>
         obtain ⟨v0,δ0⟩:=vd
         simp only [ha] at hK
         cases hgr:grdOk p0 sig ar v0 with
         | false=>simp only [hgr] at hK; exact (ev_none r0 hK).elim
         | true =>
          simp only [hgr] at hK
          obtain ⟨rfl,rfl,rfl,rfl⟩:=fin hK
          exact ⟨rfl,rfl,rfl,hgr⟩
       have comes:q0=true->(∀ K:List (Nat×Bool)×Bool×AV×Dl->Option R,(E.fn fid ar.acs vin fun cr=>match s'.lk.after sig avs ar cr ow (match o.dst with | some d=>d | none=>0) with
         | none=>none
         | some (v,δ)=>match grdOk p0 sig ar v with
          | true=>K (p0,q0,v,δ)
          | false=>none)=K (p,q,v,δ)) ->
         ((∀ x∈p,x.1∈D)/\(q=true↔tv a p))/\(if Region.wanted o (yielded ops a.tmps) then o.wp X.P a w next Q else next (a.put o.dst undef) w):=by
        intro hq hK
        obtain ⟨oc,hoc⟩:=hE.uni fid ar.acs vin
        cases oc with
        | none=>exact (ev_none r0 fun K=>by have:=hK K; rw [hoc] at this; exact this).elim
        | some cr =>
         have hK2:=after cr fun K=>by have:=hK K; rw [hoc] at this; exact this
         obtain ⟨rfl,rfl,ha,_⟩:=hK2
         refine ⟨⟨g1,g2⟩,?_⟩
         rw [g3,hq]
         have htv:=g2.1 hq
         have hfv:=opnd_g hT hG ht htv 0 f
         rw [List.append_nil] at hfe
         rw [hfe] at hfv
         obtain ⟨hcv,hfv⟩:=hfv
         let vals:=args.toList.map a.eval++caps.map fun k=>Value.pointer (some ⟨γ.vb k,0,none⟩)
         have hrun:(execOp a.eval o).run X.P w= .ok (.enter fid vals.toArray) w:=by
          have he:execOp a.eval o=(do let d←resolve a.eval ⟨.value f,args,argTypes⟩ o.type; invoke d.target d.args):=by
           simp only [execOp,hcall]
          rw [he]
          simp only [resolve,Sem.run_bind,Deferred.ofValue,hfv,Sem.run_pure,Result.andThen_ok,invoke]
          rw [callee_run hent]
          congr 2
          apply Array.toList_inj.1
          simp [vals]
         have hargsR:RelAs S.lk γ avs vals:=by
          have h1:∀ l:List Operand,RelAs S.lk γ (fmap (X.opnd s' (p0++[]) 0) l) (l.map a.eval):=by
           intro l
           induction l with
           | nil=>exact .nil
           | cons x l ih=>exact .cons (by rw [List.append_nil]; exact opnd_g hT hG ht htv 0 x) ih
          have h2:∀ l:List Nat,(∀ k∈l,∃ cs,S.lk.v k=some cs)->RelAs S.lk γ (fmap (fun v=>AV.c (.pv v 0)) l) (l.map fun k=>Value.pointer (some ⟨γ.vb k,0,none⟩)):=by
           intro l
           induction l with
           | nil=>intro _; exact .nil
           | cons x l ih=>intro h; exact .cons ⟨h x List.mem_cons_self,rfl⟩ (ih fun k hk=>h k (List.mem_cons_of_mem _ hk))
          have happ:∀ {l l':List AV} {u u':List Value},RelAs S.lk γ l u->RelAs S.lk γ l' u'->RelAs S.lk γ (l++l') (u++u'):=by
           intro l l' u u' h h'
           induction h with
           | nil=>exact h'
           | cons hx _ ih=>exact .cons hx ih
          exact happ (h1 _) (h2 _ hcv)
         have hEnt:c.Ent X S γ w vals:=⟨hok,hm,hR,htop,hargsR⟩
         simp only [if_true,Oper.wp,hrun,Oper.upon]
         refine (hfn.ok ar.acs vin cr (fun k=>by rw [hoc]; rfl) _ w vals hEnt.pre).mono ?_
         rintro e w1 ⟨u,rfl,hpost⟩
         obtain ⟨γ',hst,hr⟩:=call_ok hEnt hpost hd1500 ha
         exact hn γ' w1 u hst (gd_rel hq hr)
       by_cases hpe:p0=[]
       ·have hgc:∀ (f:(CR->Option R)->Option R) (d:CR) (k:CR->Option R),gcall p0 q0 f d k=f k:=by intro f d k; rw [hpe]
        exact comes (g4 hpe) fun K=>by have:=hop K; rw [hgc] at this; exact this
       ·have hgc:∀ (f:(CR->Option R)->Option R) (d:CR) (k:CR->Option R),gcall p0 q0 f d k=f fun cr=>match selR q0 cr d with | some c=>k c | none=>none:=by
         intro f d k; cases hp0:p0 with
         | nil=>exact absurd hp0 hpe
         | cons x p1=>rfl
        obtain ⟨oc,hoc⟩:=hE.uni fid ar.acs vin
        cases oc with
        | none=>exact (ev_none r0 fun K=>by have:=hop K; rw [hgc,hoc] at this; exact this).elim
        | some cr1 =>
        cases hsl:selR q0 cr1 ⟨sig.dr,vin,s'.lk.ioCs ar.io⟩ with
        | none=>exact (ev_none r0 fun K=>by have:=hop K; rw [hgc,hoc] at this; simp only [Option.bind,hsl] at this; exact this).elim
        | some c1 =>
        have hop1:=fun K=>by have:=hop K; rw [hgc,hoc] at this; simp only [Option.bind,hsl] at this; exact this
        have hsl:=selR_eq hsl
        rcases Bool.eq_false_or_eq_true q0 with hq | hq
        ·have hc1:c1=cr1:=by rw [hsl,hq]; rfl
         exact comes hq fun K=>by have:=hop1 K; rw [hc1] at this; rw [hoc]; exact this
        ·have hc1:c1=⟨sig.dr,vin,s'.lk.ioCs ar.io⟩:=by rw [hsl,hq]; rfl
         have hop2:=after ⟨sig.dr,vin,s'.lk.ioCs ar.io⟩ fun K=>by have:=hop1 K; rw [hc1] at this; exact this
         obtain ⟨rfl,rfl,ha,hgr⟩:=hop2
         rw [hq] at g3
         refine ⟨⟨g1,g2⟩,?_⟩
         rw [g3]
         simp only [Bool.false_eq_true,if_false]
         have hgr2:=grdOk_inv hpe hgr
         obtain ⟨b1,b2,b3,b4,b5⟩:=hgr2
         obtain ⟨γ',hst⟩:=skip_ok hR htop hm hd1500 hvins hhand ha b1 b2 b3 b4 b5
         exact hn γ' w undef hst (by rw [hq]; exact gd_skip hpe)
      ·intro hop; exact (ev_none r0 hop).elim
   ·intro hop; exact (ev_none r0 hop).elim
  ·
   split
   ·intro hop; exact (ev_none r0 hop).elim
   ·rename_i v0 hst
    intro hop
    exact plain (fun _=> .inl hst) hop
   ·rename_i c v0 hst
    intro hop
    cases hc:ck p0 q0 c with
    | false=>exact (ev_none r0 fun K=>by have:=hop K; rw [hc] at this; exact this).elim
    | true =>
     refine plain (fun hq=> .inr ?_) (fun K=>by have:=hop K; rw [hc] at this; exact this)
     have:c=true:=by
      simp only [ck] at hc
      revert hc; split
      ·exact id
      ·rw [hq]; simp
     rw [← this]; exact hst
   ·rename_i v0 δ0 hst
    cases hp0:p0 with
    | nil=>intro hop; exact chg hp0 (.inl (by rw [hp0]; rw [hp0] at hst; exact hst)) (fun K=>by rw [hp0]; exact hop K)
    | cons x p1=>intro hop; exact (ev_none r0 hop).elim
   ·rename_i c v0 δ0 hst
    cases hp0:p0 with
    | nil =>
     intro hop
     cases hc:c with
     | false=>exact (ev_none r0 fun K=>by have:=hop K; rw [hc] at this; exact this).elim
     | true=>exact chg hp0 (.inr (by rw [hp0]; rw [hp0,hc] at hst; exact hst)) (fun K=>by rw [hp0]; have:=hop K; rw [hc] at this; exact this)
    | cons x p1=>intro hop; exact (ev_none r0 hop).elim
end
end Go.Soft
namespace Go.Soft
open Go
variable {X:Ctx} {m M:Lk} {γ γ':Gh} {w w':World} {ρ:Operand->Value} {S:St} {δ:Dl}
structure Inv (X:Ctx) (e0:Lk) (γ0:Gh) (w0:World) (S:St) (γ:Gh) (a:Act) (w:World):Prop where
 rel:Rel X S.lk γ w
 top:∀ g,w.heap.size<=g->γ.O g=none
 tmp:RelT X S γ a
 df:a.defers=[]
 fr:Fr γ0.O w0 γ.O w
 i3:∀ k row,100000<=k->k<400000->S.lk.r k=some row->row.ow=1->e0.r k=some row/\γ.rv k=γ0.rv k/\γ.cv k=γ0.cv k
 i4:∀ k,200000<=k->k<300000->γ.rv k=γ0.rv k
 i2:∀ k,k<1000->γ.vb k=γ0.vb k
theorem put_lk (S:St) (d:Option Nat) (v:AV):(S.put d v).lk=S.lk:=by cases d<;>rfl
theorem put_tm (S:St) (d:Option Nat) (v:AV) (t:Nat):lk (S.put d v).tm t=if d=some t then some v else lk S.tm t:=by
 cases d with
 | none=>simp [St.put]
 | some d =>
  show (match Nat.beq d t with | true=>some v | false=>lk S.tm t)=_
  cases h:Nat.beq d t with
  | true=>have:=nat_beq h; subst this; simp
  | false =>
   have:d≠t:=by rintro rfl; rw [Nat.beq_refl] at h; cases h
   simp [this]
theorem act_get (a:Act) (d:Option Nat) (u:Value) (t:Nat) (hd:∀ x,d=some x->x<a.tmps.size):(a.put d u).tmps.getD t undef=if d=some t then u else a.tmps.getD t undef:=by
 cases d with
 | none=>simp [Act.put]
 | some d =>
  have:=hd d rfl
  simp only [Act.put,Array.getD_eq_getD_getElem?,Array.getElem?_setIfInBounds]
  by_cases h:d=t
  ·subst h; simp [this]
  ·simp [h]
theorem act_size (a:Act) (d:Option Nat) (u:Value):(a.put d u).tmps.size=a.tmps.size:=by cases d<;>simp [Act.put]
theorem act_df (a:Act) (d:Option Nat) (u:Value):(a.put d u).defers=a.defers:=by cases d<;>rfl
section
variable {e0:Lk} {γ0:Gh} {w0:World} {a:Act}
theorem Inv.step (hI:Inv X e0 γ0 w0 S γ a w) (hs:Step X S γ w δ γ' w') {d:Option Nat} (hd:∀ x,d=some x->x<X.nt) {v:AV} {u:Value} (hu:RelA (S.app δ).lk γ' v u) :
  Inv X e0 γ0 w0 ((S.app δ).put d v) γ' (a.put d u) w':=by
 have hlk:=put_lk (S.app δ) d v
 have hsz:∀ x,d=some x->x<a.tmps.size:=fun x hx=>Nat.lt_of_lt_of_le (hd x hx) hI.tmp.1
 refine ⟨by rw [hlk]; exact hs.rel,hs.fr.top,⟨by rw [act_size]; exact hI.tmp.1,fun t av ht=> ?_⟩,by rw [act_df]; exact hI.df,hI.fr.trans hs.fr,fun k row h1 h2 hr ho=> ?_,fun k h1 h2=> ?_,fun k hk=> ?_⟩
 ·rw [put_tm] at ht
  rw [act_get a d u t hsz,hlk]
  by_cases h:d=some t
  ·rw [if_pos h] at ht ⊢; cases ht; exact hu
  ·rw [if_neg h] at ht ⊢
   rw [app_t] at ht
   cases hl:lk S.tm t with
   | none=>rw [hl] at ht; cases ht
   | some av0 =>
    rw [hl] at ht; simp only [Option.map_some,Option.some.injEq] at ht; subst ht
    exact (hI.tmp.2 t av0 hl).map hs.keep (by rfl)
 ·rw [hlk,app_r] at hr
  cases hz:lkZ δ.rs k with
  | some r =>
   rw [hz] at hr; simp only at hr; subst hr
   have:=hs.k1 k row hz ho; omega
  | none =>
   rw [hz] at hr
   obtain ⟨a1,a2,a3⟩:=hI.i3 k row h1 h2 hr ho
   obtain ⟨b1,b2⟩:=hs.kp k row hz hr
   exact ⟨a1,b1.trans a2,b2.trans a3⟩
 ·exact (hs.io k h1 h2).trans (hI.i4 k h1 h2)
 ·exact (hs.vb k hk).trans (hI.i2 k hk)
theorem GInv.step {D:List Nat} (hG:GInv D S a) {d:Option Nat} {D':List Nat} (hD:∀ x∈D,x∈D') (hd:∀ x,d=some x->x∉D/\x<a.tmps.size) {p:List (Nat×Bool)} {q:Bool} {v:AV} {u:Value}
  (hp:(∀ x∈p,x.1∈D)/\(q=true↔tv a p)):GInv D' ((S.app δ).put d (gd p q v)) (a.put d u):=by
 have stable:∀ p':List (Nat×Bool),(∀ x∈p',x.1∈D)->(tv (a.put d u) p'↔tv a p'):=by
  intro p' hp'
  have:∀ x∈p',(a.put d u).tmps.getD x.1 undef=a.tmps.getD x.1 undef:=by
   intro x hx
   rw [act_get a d u x.1 fun y hy=>(hd y hy).2]
   rw [if_neg]
   intro h
   exact (hd x.1 h).1 (hp' x hx)
  exact ⟨fun h x hx=>by rw [← this x hx]; exact h x hx,fun h x hx=>by rw [this x hx]; exact h x hx⟩
 refine ⟨fun t p' q' v' ht=> ?_⟩
 rw [put_tm] at ht
 by_cases h:d=some t
 ·rw [if_pos h] at ht
  simp only [Option.some.injEq] at ht
  have:p'=p/\q'=q:=by
   cases p with
   | nil=>exfalso; revert ht; cases v<;>simp [gd,dropG]
   | cons x p=>simp only [gd,AV.g.injEq] at ht; exact ⟨ht.1.symm,ht.2.1.symm⟩
  obtain ⟨rfl,rfl⟩:=this
  exact ⟨fun x hx=>hD _ (hp.1 x hx),hp.2.trans (stable p' hp.1).symm⟩
 ·rw [if_neg h,app_t] at ht
  cases hl:lk S.tm t with
  | none=>rw [hl] at ht; cases ht
  | some av =>
   rw [hl] at ht; simp only [Option.map_some,Option.some.injEq] at ht
   cases av with
   | g p0 q0 v0 =>
    simp only [mapV,AV.g.injEq] at ht
    obtain ⟨rfl,rfl,_⟩:=ht
    obtain ⟨g1,g2⟩:=hG.g t _ _ _ hl
    exact ⟨fun x hx=>hD _ (g1 x hx),g2.trans (stable _ g1).symm⟩
   | _=>simp [mapV] at ht
theorem lk_dropGs (l:List (Nat×AV)) (t:Nat):lk (dropGs l) t=(lk l t).map dropG:=by
 induction l with
 | nil=>rfl
 | cons p l ih =>
  obtain ⟨k,v⟩:=p
  simp only [dropGs,lk,ih]
  cases Nat.beq k t<;>rfl
theorem Inv.drop (hI:Inv X e0 γ0 w0 S γ a w):Inv X e0 γ0 w0 ⟨dropGs S.tm,S.vs,S.rs⟩ γ a w:=by
 refine ⟨hI.rel,hI.top,⟨hI.tmp.1,fun t av ht=> ?_⟩,hI.df,hI.fr,hI.i3,hI.i4,hI.i2⟩
 have ht:lk (dropGs S.tm) t=some av:=ht
 rw [lk_dropGs] at ht
 cases hl:lk S.tm t with
 | none=>rw [hl] at ht; cases ht
 | some av0 =>
  rw [hl] at ht; simp only [Option.map_some,Option.some.injEq] at ht; subst ht
  exact dropG_rel (hI.tmp.2 t av0 hl)
def gfree (S:St):Prop:=∀ t p q v,lk S.tm t≠some (.g p q v)
theorem gfree_drop (S:St):gfree ⟨dropGs S.tm,S.vs,S.rs⟩:=by
 intro t p q v h
 have h:lk (dropGs S.tm) t=some (.g p q v):=h
 rw [lk_dropGs] at h
 cases hl:lk S.tm t with
 | none=>rw [hl] at h; cases h
 | some av=>rw [hl] at h; simp only [Option.map_some,Option.some.injEq] at h; cases av<;>simp [dropG] at h
theorem gfree_GInv (h:gfree S):GInv [] S a:=⟨fun t p q v hl=>absurd hl (h t p q v)⟩
theorem dsts_mem:∀ {l:List Oper} {d:Nat},d∈dsts l↔∃ o∈l,o.dst=some d
 | [],d=>by simp [dsts]
 | o::l,d=>by
  simp only [dsts]
  cases ho:o.dst with
  | none=>simp [dsts_mem,ho]
  | some e =>
   simp only [List.mem_cons,dsts_mem,exists_eq_or_imp,ho,Option.some.injEq]
   exact ⟨fun h=>h.elim (fun h=> .inl h.symm) .inr,fun h=>h.elim (fun h=> .inl h.symm) .inr⟩
theorem dsts_append (a b:List Oper):dsts (a++b)=dsts a++dsts b:=by
 induction a with
 | nil=>rfl
 | cons o a ih=>simp only [List.cons_append,dsts,ih]; cases o.dst<;>rfl
theorem gdLt_get:∀ {l:List Oper} {n:Nat},gdLt n l=true->∀ (i:Nat) (o:Oper),l[i]? =some o->∀ j w,o.guard=some (j,w)->j<n+i
 | [],n,_,i,o,h,_,_,_=>by simp at h
 | x::l,n,hg,i,o,h,j,w,ho=>by
  simp only [gdLt,Bool.and_eq_true] at hg
  cases i with
  | zero =>
   simp only [List.getElem?_cons_zero,Option.some.injEq] at h; subst h
   rw [ho] at hg
   have:Nat.ble (j+1) n=true:=hg.1
   have:=Nat.le_of_ble_eq_true this; omega
  | succ i=>have:=gdLt_get hg.2 i o (by simpa using h) j w ho; omega
structure RegOk (X:Ctx) (ops:Array Oper):Prop where
 nd:(dsts ops.toList).Nodup
 lt:∀ d∈dsts ops.toList,d<X.nt
 nt:X.nt<=1500
 gd:∀ (i:Nat) (o:Oper),ops[i]? =some o->∀ j w,o.guard=some (j,w)->j<i
theorem regOk {ops:Array Oper} (h:(nodupN (dsts ops.toList)&&(allLt X.nt (dsts ops.toList)&&(Nat.ble X.nt 1500&&gdLt 0 ops.toList)))=true):RegOk X ops:=by
 simp only [Bool.and_eq_true] at h
 refine ⟨nodupN_iff.1 h.1,allLt_iff.1 h.2.1,Nat.le_of_ble_eq_true h.2.2.1,fun i o ho j w hg=> ?_⟩
 have:=gdLt_get h.2.2.2 i o (by simpa using ho) j w hg
 omega
variable {R:Type} {E:Env R}
theorem seq_ok (r0:R) (hX:CtxOk X) (hE:EnvOk X E) {ops:Array Oper} (hr:RegOk X ops) {Q:Exit->Act->World->Prop} {s':St} {fp':List Fp} (hQ:∀ γ' a' w',Inv X e0 γ0 w0 s' γ' a' w'->Q .normal a' w') :
  ∀ (l pre:List Oper) (S:St) (γ:Gh) (a:Act) (w:World) (fp:List Fp),ops.toList=pre++l->Inv X e0 γ0 w0 S γ a w->GInv (dsts pre) S a ->
   (∀ K:St×List Fp->Option R,(execOps X E ops false l S fp fun s f=>K (s,f))=K (s',fp'))->wpOps X.P ops Q (List.range' pre.length l.length) a w
 | [],pre,S,γ,a,w,fp,_,hI,_,hK=>by
  have:=ev_inj r0 hK
  simp only [Prod.mk.injEq] at this
  exact hQ γ a w (this.1▸hI)
 | o::l,pre,S,γ,a,w,fp,hl,hI,hG,hK=>by
  have hget:ops[pre.length]? =some o:=by
   rw [← Array.getElem?_toList,hl]; simp
  simp only [List.length_cons,List.range'_succ,wpOps,hget]
  obtain ⟨oc,hoc⟩:=runOp_uni (X:=X) hE.uni ops S o
  cases oc with
  | none =>
   exact False.elim<|ev_none r0 (α:=St×List Fp) (y:=(s',fp')) fun K=>by
    have h1:=hK K
    have h2:=hoc fun x=>execOps X E ops false l ((S.app x.2.2.2).put o.dst (gd x.1 x.2.1 x.2.2.1)) fp fun s f=>K (s,f)
    exact h2.symm.trans h1
  | some x =>
   obtain ⟨p,q,v,δ⟩:=x
   have hK2:∀ K:St×List Fp->Option R,(execOps X E ops false l ((S.app δ).put o.dst (gd p q v)) fp fun s f=>K (s,f))=K (s',fp'):=by
    intro K
    have h1:=hK K
    have h2:=hoc fun x=>execOps X E ops false l ((S.app x.2.2.2).put o.dst (gd x.1 x.2.1 x.2.2.1)) fp fun s f=>K (s,f)
    exact h2.symm.trans h1
   have hdl:∀ d,o.dst=some d->d<X.nt:=fun d hd=>hr.lt d (by rw [hl,dsts_append]; simp [dsts,hd])
   have hdn:∀ d,o.dst=some d->d∉dsts pre:=by
    intro d hd hm
    have:=hr.nd
    rw [hl,dsts_append] at this
    exact (List.nodup_append.1 this).2.2 d hm d (by simp [dsts,hd]) rfl
   have hpre:∀ x∈dsts pre,x∈dsts (pre++[o]):=fun x hx=>by rw [dsts_append]; exact List.mem_append_left _ hx
   have hgd:∀ j w,o.guard=some (j,w)->∀ oj t,ops[j]? =some oj->oj.dst=some t->t∈dsts pre:=by
    intro j w hg oj t hj ht
    have hlt:=hr.gd pre.length o hget j w hg
    have hj2:pre[j]? =some oj:=by
     rw [← Array.getElem?_toList,hl,List.getElem?_append_left hlt] at hj; exact hj
    exact dsts_mem.2 ⟨oj,List.mem_of_getElem? hj2,ht⟩
   have hop:=op_ok r0 hX hE hI.rel hI.top hI.tmp hG (Le.refl S.lk) (fun _ _ h=>h) hr.nt hdl hgd (v:=v) (δ:=δ) (p:=p) (q:=q) (s':=S) (fun K=>hoc K)
    (next:=wpOps X.P ops Q (List.range' (pre.length+1) l.length)) (Q:=Q)
   have hgp:(∀ x∈p,x.1∈dsts pre)/\(q=true↔tv a p):=(op_ok r0 hX hE hI.rel hI.top hI.tmp hG (Le.refl S.lk) (fun _ _ h=>h) hr.nt hdl hgd (v:=v) (δ:=δ) (p:=p) (q:=q) (s':=S) (fun K=>hoc K)
    (next:=fun _ _=>True) (Q:=Q) (fun _ _ _ _ _=>trivial)).1
   have hfin:=(hop fun γ' w' u hst hu=>by
    have:=seq_ok r0 hX hE hr hQ l (pre++[o]) ((S.app δ).put o.dst (gd p q v)) γ' (a.put o.dst u) w' fp (by rw [hl]; simp) (hI.step hst hdl hu)
     (hG.step hpre (fun x hx=>⟨hdn x hx,Nat.lt_of_lt_of_le (hdl x hx) hI.tmp.1⟩) hgp) hK2
    simpa using this).2
   cases hw:Region.wanted o (yielded ops a.tmps) with
   | true=>rw [hw] at hfin; simp only [if_true] at hfin ⊢; exact .inl hfin
   | false=>rw [hw] at hfin; simpa using hfin
end
end Go.Soft
