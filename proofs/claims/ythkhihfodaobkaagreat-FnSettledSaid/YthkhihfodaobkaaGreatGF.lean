import Derived.Test.YthkhihfodaobkaaGreatGE
import Derived.ProofKit
set_option linter.constructorNameAsVariable false
set_option linter.unusedVariables false
set_option linter.unusedSimpArgs false
namespace Go.Soft
open Go
variable {R:Type} {m:Mem}
def SP (k:Nat) (p:ByteArray):Prop:=∃ l:List ByteArray,p=joinPath l/\l.length<=k/\∀ y∈l,y∈names5
theorem names5_ok {x:ByteArray} (h:x∈names5):nameOk x=true:=by
 simp only [names5,List.mem_cons,List.not_mem_nil,or_false] at h
 rcases h with rfl | rfl | rfl | rfl | rfl<;>decide
theorem SP.size {k:Nat} {p:ByteArray} (h:SP k p):p.size<=3*k:=by
 obtain ⟨l,rfl,hl,hn⟩:=h
 have:∀ (l:List ByteArray) (a:ByteArray),(∀ y∈l,y∈names5)->(l.foldl (fun s x=>(s++S [47])++x) a).size<=a.size+3*l.length:=by
  intro l
  induction l with
  | nil=>intro a _; simp
  | cons x l ih =>
   intro a h
   have h1:=names5_size (h x List.mem_cons_self)
   have h2:=ih ((a++S [47])++x) fun y hy=>h y (List.mem_cons_of_mem _ hy)
   have h3:(S [47]).size=1:=rfl
   rw [List.foldl_cons,List.length_cons]
   rw [ByteArray.size_append,ByteArray.size_append,h3] at h2
   omega
 have:=this l eS hn
 rw [eS_size] at this
 show (joinPath l).size<=_
 simp only [joinPath]; omega
theorem SP.snoc {k:Nat} {p x:ByteArray} (h:SP k p) (hx:x∈names5):SP (k+1) ((p++S [47])++x):=by
 obtain ⟨l,rfl,b,c⟩:=h
 refine ⟨l++[x],by simp only [joinPath,List.foldl_append,List.foldl_cons,List.foldl_nil],by simp; omega,fun y hy=> ?_⟩
 rcases List.mem_append.1 hy with hy | hy
 ·exact c y hy
 ·rw [List.mem_singleton] at hy; subst hy; exact hx
theorem splitPath_long {l:List ByteArray} (h:∀ y∈l,nameOk y=true) (h4:4<l.length):(splitPath (joinPath l)).2=false:=by
 match l,h4 with
 | x::xs,h4 =>
  have hx:=h x List.mem_cons_self
  have hb:(joinPath (x::xs)).data.toList=47::(x.data.toList++pathB xs):=joinPath_bytes _
  have hne:∃ c t,x.data.toList=c::t:=by
   have:=(nameOk_size hx).1
   cases hd:x.data.toList with
   | nil=>rw [size_eq,hd] at this; simp at this
   | cons c t=>exact ⟨c,t,rfl⟩
  obtain ⟨c,t,hct⟩:=hne
  have hs:segs [] (x.data.toList++pathB xs)=x::xs:=by
   rw [segs_run _ _ _ (nameOk_bytes hx),List.nil_append,segs_join xs _ fun z hz=>h z (List.mem_cons_of_mem _ hz)]
   rfl
  simp only [splitPath,hb,beq_self_eq_true,cond_true]
  rw [hct,List.cons_append] at hs ⊢
  simp only [hs]
  rw [show decide ((x::xs).length<=4)=false by simp only [decide_eq_false_iff_not]; omega,Bool.and_false]; rfl
theorem SP.cut {k:Nat} {p:ByteArray} (h:SP k p) (hs:(splitPath p).2=true):SP 4 p:=by
 obtain ⟨l,rfl,b,c⟩:=h
 refine ⟨l,rfl,Decidable.byContradiction fun hn=> ?_,c⟩
 rw [splitPath_long (fun y hy=>names5_ok (c y hy)) (by omega)] at hs; cases hs
def callEv (m:Mem) (e:Event):Mem×Int×Bool :=
 bif e.Kind==1 then ((makeNode m e.Path 1).1,(makeNode m e.Path 1).2,true) else
 bif e.Kind==2 then ((makeNode m e.Path 2).1,(makeNode m e.Path 2).2,true) else
 bif e.Kind==3 then ((writeText m e.Path e.At e.Text).1,(writeText m e.Path e.At e.Text).2,true) else
 bif e.Kind==4 then ((removeNode m e.Path).1,(removeNode m e.Path).2,true) else
 bif e.Kind==5 then ((moveFile m e.Path e.To).1,(moveFile m e.Path e.To).2,true) else (m,0,false)
theorem l17Call_eq {n:Nat} (hn:FUEL<=n) (h:MInv m) (e:Event) (hp:e.Path.size<=LEN) (hq:e.To.size<=LEN) (k:Mem->Int->Bool->Option R):s_l17Call n m e k=k (callEv m e).1 (callEv m e).2.1 (callEv m e).2.2:=by
 have hm:=h.sz
 simp only [s_l17Call,callEv]
 rw [(MakeNode_eq hn m hm _ hp _ _).1,(MakeNode_eq hn m hm _ hp _ _).1,(WriteText_eq hn m hm _ hp _ _ _).1,(RemoveNode_eq hn m hm _ hp _).1,MoveFile_eq hn h _ _ hp hq]
 cases e.Kind==1<;>cases e.Kind==2<;>cases e.Kind==3<;>cases e.Kind==4<;>cases e.Kind==5<;>rfl
theorem MInv.call (h:MInv m) (e:Event):MInv (callEv m e).1:=by
 simp only [callEv]
 have h1:=h.make e.Path 1
 have h2:=h.make e.Path 2
 have h3:=h.text e.Path e.At e.Text
 have h4:=h.remove e.Path
 have h5:=h.move e.Path e.To
 cases e.Kind==1 with
 | true=>exact h1
 | false =>
 cases e.Kind==2 with
 | true=>exact h2
 | false =>
 cases e.Kind==3 with
 | true=>exact h3
 | false =>
 cases e.Kind==4 with
 | true=>exact h4
 | false =>
 cases e.Kind==5 with
 | true=>exact h5
 | false=>exact h
def doEv (e:Event) (w:World):World :=
 ⟨bif e.Kind==6 then (writeBack ⟨(callEv w.Fs.Mem e).1,w.Fs.Device⟩ e.At).1 else bif e.Kind==7 then flush ⟨(callEv w.Fs.Mem e).1,w.Fs.Device⟩ else ⟨(callEv w.Fs.Mem e).1,w.Fs.Device⟩,
  bif (callEv w.Fs.Mem e).2.2&&((callEv w.Fs.Mem e).2.1==0) then modelAfter w.Model e else w.Model,
  w.Codes++[(callEv w.Fs.Mem e).2.1],
  bif e.Kind==7 then w.Model else w.Kept⟩
theorem l17Do_eq' {n:Nat} (hn:FUEL<=n) (e:Event) (h8:(e.Kind==8)=false) (m0:Mem) (d0:Device) (md:List Node) (cs:List Int) (kp:List Node) (h:FInv ⟨m0,d0⟩) (hl:md.length<=1048576) (hp:∀ x∈md,x.Path.size<=1000) (hc:cs.length<=1000000) (he:e.Path.size<=LEN) (ht:e.To.size<=LEN) (k:World->Option R) :
  s_l17Do n e ⟨⟨m0,d0⟩,md,cs,kp⟩ k=k ⟨bif e.Kind==6 then (writeBack ⟨(callEv m0 e).1,d0⟩ e.At).1 else bif e.Kind==7 then flush ⟨(callEv m0 e).1,d0⟩ else ⟨(callEv m0 e).1,d0⟩,bif (callEv m0 e).2.2&&((callEv m0 e).2.1==0) then modelAfter md e else md,cs++[(callEv m0 e).2.1],bif e.Kind==7 then md else kp⟩:=by
 have ok1:lenOk cs=true:=lenOk_of (by omega)
 have ok2:∀ c,lenOk (cs++[c])=true:=fun c=>lenOk_of (by rw [List.length_append,List.length_singleton]; omega)
 have okm:lenOk md=true:=lenOk_of (by omega)
 have hI:FInv ⟨(callEv m0 e).1,d0⟩:=⟨h.m.call e,h.d⟩
 have hwb:∀ k:Fs->Bool->Option R,s_WriteBack n ⟨(callEv m0 e).1,d0⟩ e.At k=k (writeBack ⟨(callEv m0 e).1,d0⟩ e.At).1 (writeBack ⟨(callEv m0 e).1,d0⟩ e.At).2:=fun k=>WriteBack_eq hn _ hI.m.sz (devLen' hI.d) _ k
 have hfl:∀ k:Fs->Option R,s_Flush n ⟨(callEv m0 e).1,d0⟩ k=k (flush ⟨(callEv m0 e).1,d0⟩):=fun k=>Flush_eq hn _ hI k
 have hm:∀ k:List Node->Option R,s_ModelAfter n md e k=k (modelAfter md e):=fun k=>ModelAfter_eq hn _ hl (fun x hx=>Nat.le_trans (hp x hx) (by decide)) e he k
 have hcl:∀ k:Mem->Int->Bool->Option R,s_l17Call n m0 e k=k (callEv m0 e).1 (callEv m0 e).2.1 (callEv m0 e).2.2:=fun k=>l17Call_eq hn h.m e he ht k
 have hcall:(callEv m0 e).2.2=false->(callEv m0 e).1=m0:=fun hf=>by
  revert hf
  simp only [callEv]
  cases e.Kind==1<;>cases e.Kind==2<;>cases e.Kind==3<;>cases e.Kind==4<;>cases e.Kind==5<;>first | (intro hf; cases hf; done) | (intro _; rfl)
 have hk67:(e.Kind==6)=true->(e.Kind==7)=false:=fun a=>by rw [beq_iff_eq] at a; rw [a]; rfl
 have hcall7:(callEv m0 e).2.2=true->(e.Kind==7)=false:=fun hf=>by
  cases h7:e.Kind==7 with
  | false=>rfl
  | true =>
   rw [beq_iff_eq] at h7
   simp only [callEv,h7] at hf
   cases hf
 simp only [s_l17Do,List.nil_append]
 rw [hcl]
 clear hcl hI h hp he ht
 generalize callEv m0 e=c at *
 obtain ⟨c1,c2,c3⟩:=c
 simp only at hcall hcall7 hwb hfl ⊢
 generalize modelAfter md e=ma at *
 cases c3 with
 | true =>
  generalize writeBack ⟨c1,d0⟩ e.At=wb at *
  generalize flush ⟨c1,d0⟩=fl at *
  simp only [ok1,ok2,chk_t,h8,cond_true,cond_false,hwb,hfl,hm,okm,hcall7 rfl,Bool.true_and]
  cases c2==0<;>cases e.Kind==6<;>rfl
 | false =>
  have hc1:=hcall rfl
  subst hc1
  generalize writeBack ⟨c1,d0⟩ e.At=wb at *
  generalize flush ⟨c1,d0⟩=fl at *
  simp only [ok1,ok2,chk_t,h8,cond_true,cond_false,hwb,hfl,hm,okm,Bool.false_and]
  cases h6:e.Kind==6 with
  | true=>rw [hk67 h6]; simp only [cond_true,cond_false]
  | false =>
   simp only [cond_false]
   cases e.Kind==7 with
   | true=>simp only [cond_true]
   | false=>simp only [cond_false]
theorem l17Do_eq {n:Nat} (hn:FUEL<=n) (e:Event) (h8:(e.Kind==8)=false) (w:World) (h:FInv w.Fs) (hl:w.Model.length<=1048576) (hp:∀ x∈w.Model,x.Path.size<=1000) (hc:w.Codes.length<=1000000) (he:e.Path.size<=LEN) (ht:e.To.size<=LEN) (k:World->Option R) :
  s_l17Do n e w k=k (doEv e w):=l17Do_eq' hn e h8 w.Fs.Mem w.Fs.Device w.Model w.Codes w.Kept h hl hp hc he ht k
structure WInv (t:Nat) (w:World):Prop where
 fs:FInv w.Fs
 ml:w.Model.length<=t
 mp:∀ x∈w.Model,SP 4 x.Path
 cl:w.Codes.length<=t
theorem EvFrom.kind {l:List Node} {e:Event} (h:EvFrom l e):(e.Kind==8)=false:=by
 cases h with
 | make k p hk _=>rcases hk with rfl | rfl<;>rfl
 | write=>rfl
 | remove=>rfl
 | move=>rfl
 | back=>rfl
 | flush=>rfl
theorem FreshP.sp {l:List Node} (hl:∀ x∈l,SP 4 x.Path) {p:ByteArray} (h:FreshP l p):SP 5 p:=by
 obtain ⟨d,hd,x,hx,rfl⟩:=h
 have hd':SP 4 d:=by
  simp only [dirsOf,List.mem_cons,List.mem_map,List.mem_filter] at hd
  rcases hd with rfl | ⟨z,hz,rfl⟩
  ·exact ⟨[],rfl,by simp,fun y hy=>(List.not_mem_nil hy).elim⟩
  ·exact hl z hz.1
 exact hd'.snoc hx
theorem FreshP.size {l:List Node} (hl:∀ x∈l,x.Path.size<=1000) {p:ByteArray} (h:FreshP l p):p.size<=1003:=by
 obtain ⟨d,hd,x,hx,rfl⟩:=h
 have hd':d.size<=1000:=by
  simp only [dirsOf,List.mem_cons,List.mem_map,List.mem_filter] at hd
  rcases hd with rfl | ⟨z,hz,rfl⟩
  ·decide
  ·exact hl z hz.1
 have h1:=names5_size hx
 have h3:(S [47]).size=1:=rfl
 rw [ByteArray.size_append,ByteArray.size_append,h3]; omega
theorem files_mem {l:List Node} {p:ByteArray} (h:p∈filesOf l):∃ x∈l,x.Path=p:=by
 simp only [filesOf,List.mem_map,List.mem_filter] at h
 obtain ⟨x,hx,rfl⟩:=h
 exact ⟨x,hx.1,rfl⟩
theorem EvFrom.size {l:List Node} (hl:∀ x∈l,x.Path.size<=1000) {e:Event} (h:EvFrom l e):e.Path.size<=1003/\e.To.size<=1003:=by
 have hf:∀ {p},(p∈filesOf l\/p=S [47,97])->p.size<=1003:=fun h=>by
  rcases h with h | rfl
  ·obtain ⟨x,hx,rfl⟩:=files_mem h
   have:=hl x hx; omega
  ·decide
 have e0:eS.size<=1003:=by decide
 cases h with
 | make k p hk hp=>exact ⟨hp.size hl,e0⟩
 | write p a t hp=>exact ⟨hf hp,e0⟩
 | remove p hp =>
  refine ⟨?_,e0⟩
  rcases hp with hp | rfl
  ·obtain ⟨x,hx,rfl⟩:=List.mem_map.1 hp
   have:=hl x hx; show x.Path.size<=1003; omega
  ·show (S [47,98]).size<=1003; decide
 | move p q hp hq=>exact ⟨hf hp,hq.size hl⟩
 | back=>exact ⟨e0,e0⟩
 | flush=>exact ⟨e0,e0⟩
theorem callEv_1 (m:Mem) (p t:ByteArray) (a:Int) (x:ByteArray):callEv m ⟨1,p,t,a,x⟩=((makeNode m p 1).1,(makeNode m p 1).2,true):=rfl
theorem callEv_2 (m:Mem) (p t:ByteArray) (a:Int) (x:ByteArray):callEv m ⟨2,p,t,a,x⟩=((makeNode m p 2).1,(makeNode m p 2).2,true):=rfl
theorem callEv_5 (m:Mem) (p t:ByteArray) (a:Int) (x:ByteArray):callEv m ⟨5,p,t,a,x⟩=((moveFile m p t).1,(moveFile m p t).2,true):=rfl
theorem model_12 (l:List Node) {k:Int} (hk:k=1\/k=2) (p t:ByteArray) (a:Int) (x:ByteArray):modelAfter l ⟨k,p,t,a,x⟩=sortN (l++[⟨p,k==2,eS,eS⟩]):=by
 have:((k==1)||(k==2))=true:=by simpa using hk
 simp only [modelAfter,this,cond_true]
theorem model_3 (l:List Node) (p t:ByteArray) (a:Int) (x:ByteArray):modelAfter l ⟨3,p,t,a,x⟩=l.map (writeN ⟨3,p,t,a,x⟩):=by
 simp only [modelAfter,show ((3:Int)==1)=false from rfl,show ((3:Int)==2)=false from rfl,show ((3:Int)==3)=true from rfl,Bool.or_false,cond_true,cond_false]
theorem model_4 (l:List Node) (p t:ByteArray) (a:Int) (x:ByteArray):modelAfter l ⟨4,p,t,a,x⟩=l.filter (fun x=> !below x.Path p):=by
 simp only [modelAfter,show ((4:Int)==1)=false from rfl,show ((4:Int)==2)=false from rfl,show ((4:Int)==3)=false from rfl,show ((4:Int)==4)=true from rfl,Bool.or_false,cond_true,cond_false]
theorem model_5 (l:List Node) (p t:ByteArray) (a:Int) (x:ByteArray):modelAfter l ⟨5,p,t,a,x⟩=sortN (l.map (moveN ⟨5,p,t,a,x⟩)):=by
 simp only [modelAfter,show ((5:Int)==1)=false from rfl,show ((5:Int)==2)=false from rfl,show ((5:Int)==3)=false from rfl,show ((5:Int)==4)=false from rfl,show ((5:Int)==5)=true from rfl,Bool.or_false,cond_true,cond_false]
theorem model_6 (l:List Node) (k:Int) (hk:k=6\/k=7) (p t:ByteArray) (a:Int) (x:ByteArray):modelAfter l ⟨k,p,t,a,x⟩=l:=by
 rcases hk with rfl | rfl<;>simp only [modelAfter,show ((6:Int)==1)=false from rfl,show ((6:Int)==2)=false from rfl,show ((6:Int)==3)=false from rfl,show ((6:Int)==4)=false from rfl,show ((6:Int)==5)=false from rfl,show ((7:Int)==1)=false from rfl,show ((7:Int)==2)=false from rfl,show ((7:Int)==3)=false from rfl,show ((7:Int)==4)=false from rfl,show ((7:Int)==5)=false from rfl,Bool.or_false,cond_true,cond_false]
theorem make_ok {p:ByteArray} {k:Int} (h:(makeNode m p k).2=0):(splitPath p).2=true:=by
 have h2:(splitDir p).2.2=true:=by
  cases hs:(splitDir p).2.2 with
  | true=>rfl
  | false =>
   simp only [makeNode,hs,Bool.not_false,Bool.or_true,Bool.true_or,cond_true] at h
   exact absurd h (by decide)
 obtain ⟨l,x,e,_⟩:=splitDir_spec2 h2
 rw [e]
theorem move_ok {p q:ByteArray} (h:(moveFile m p q).2=0):(splitPath q).2=true:=by
 have h2:(splitDir q).2.2=true:=by
  cases hs:(splitDir q).2.2 with
  | true=>rfl
  | false =>
   simp only [moveFile,hs,Bool.not_false,Bool.or_true,cond_true] at h
   exact absurd h (by decide)
 obtain ⟨l,x,e,_⟩:=splitDir_spec2 h2
 rw [e]
theorem FInv.flush {f:Fs} (h:FInv f):FInv (Soft.flush f):=by unfold Soft.flush; exact FInv.flushN 400 h
theorem WInv.step {t:Nat} {w:World} (h:WInv t w) {e:Event} (he:EvFrom w.Model e):WInv (t+1) (doEv e w):=by
 have hI:FInv ⟨(callEv w.Fs.Mem e).1,w.Fs.Device⟩:=⟨h.fs.m.call e,h.fs.d⟩
 have hcl:(doEv e w).Codes.length<=t+1:=by
  simp only [doEv]
  rw [List.length_append,List.length_singleton]; have:=h.cl; omega
 have hfs:FInv (doEv e w).Fs:=by
  simp only [doEv]
  cases e.Kind==6 with
  | true=>rw [cond_true]; exact hI.back e.At
  | false =>
   rw [cond_false]
   cases e.Kind==7 with
   | true=>rw [cond_true]; exact hI.flush
   | false=>rw [cond_false]; exact hI
 have hml:=h.ml
 have hM:(doEv e w).Model.length<=t+1/\∀ x∈(doEv e w).Model,SP 4 x.Path:=by
  simp only [doEv]
  cases hc:(callEv w.Fs.Mem e).2.2&&((callEv w.Fs.Mem e).2.1==0) with
  | false=>exact ⟨by simp only [cond_false]; omega,h.mp⟩
  | true =>
   simp only [Bool.and_eq_true,beq_iff_eq] at hc
   simp only [cond_true]
   have hc:=hc.2
   cases he with
   | make k p hk hp =>
    have hm:=model_12 w.Model hk p eS 0 eS
    have hs:(splitPath p).2=true:=by
     rcases hk with rfl | rfl
     ·rw [callEv_1] at hc; exact make_ok hc
     ·rw [callEv_2] at hc; exact make_ok hc
    rw [hm]
    refine ⟨by rw [sortN_len,List.length_append,List.length_singleton]; omega,fun x hx=> ?_⟩
    rw [sortN_mem,List.mem_append,List.mem_singleton] at hx
    rcases hx with hx | rfl
    ·exact h.mp x hx
    ·exact (hp.sp h.mp).cut hs
   | write p a t hp ha ht =>
    have hm:=model_3 w.Model p eS a t
    rw [hm]
    refine ⟨by rw [List.length_map]; omega,fun x hx=> ?_⟩
    obtain ⟨y,hy,rfl⟩:=List.mem_map.1 hx
    have:(writeN ⟨3,p,eS,a,t⟩ y).Path=y.Path:=by
     simp only [writeN]
     cases (!(y.Path==p))||y.Dir with
     | true=>rfl
     | false=>cases a==0<;>rfl
    rw [this]; exact h.mp y hy
   | remove p hp =>
    have hm:=model_4 w.Model p eS 0 eS
    rw [hm]
    exact ⟨Nat.le_trans (List.length_filter_le _ _) (by omega),fun x hx=>h.mp x (List.mem_filter.1 hx).1⟩
   | move p q hp hq =>
    have hm:=model_5 w.Model p q 0 eS
    rw [hm]
    refine ⟨by rw [sortN_len,List.length_map]; omega,fun x hx=> ?_⟩
    rw [sortN_mem] at hx
    obtain ⟨y,hy,rfl⟩:=List.mem_map.1 hx
    simp only [moveN]
    cases (y.Path==p)&&(!y.Dir) with
    | true=>rw [callEv_5] at hc; exact (hq.sp h.mp).cut (move_ok hc)
    | false=>exact h.mp y hy
   | back u=>rw [model_6 _ _ (.inl rfl)]; exact ⟨by omega,h.mp⟩
   | flush=>rw [model_6 _ _ (.inr rfl)]; exact ⟨by omega,h.mp⟩
 exact ⟨hfs,hM.1,hM.2,hcl⟩
inductive WR:World->Prop
 | new:WR ⟨fsNew,[],[],[]⟩
 | step {w:World} {e:Event}:WR w->EvFrom w.Model e->WR (doEv e w)
theorem WInv.new:WInv 0 ⟨fsNew,[],[],[]⟩:=⟨FInv.new,by simp,fun x hx=>(List.not_mem_nil hx).elim,by simp⟩
theorem SP.le {p:ByteArray} (h:SP 4 p):p.size<=1000:=by have:=h.size; omega
theorem step_draw {n:Nat} (hn:FUEL<=n) {t:Nat} (ht:t<=1000000) (w:World) (h:WInv t w) (c:Cur) (hc:COk c):∃ e c',Cn c c'/\EvFrom w.Model e/\(∀ k:Event->Cur->Option R,s_l17Next n w c k=k e c')/\∀ k:World->Option R,s_l17Do n e w k=k (doEv e w):=by
 have hml:=h.ml
 have hcl:=h.cl
 have hp:∀ x∈w.Model,x.Path.size<=1000:=fun x hx=>(h.mp x hx).le
 obtain ⟨e,c',h1,h2,h3⟩:=next_draw (R:=R) hn w (by omega) hp h.fs.m.g.R.dy c hc
 obtain ⟨s1,s2⟩:=h2.size hp
 exact ⟨e,c',h1,h2,h3,fun k=>l17Do_eq hn e h2.kind w h.fs (by omega) hp (by omega) (Nat.le_trans s1 (by decide)) (Nat.le_trans s2 (by decide)) k⟩
theorem fs_loop {n:Nat} (hn:FUEL<=n) (b:List UInt8):∀ (r i:Nat) (w:World) (c:Cur),i+r=28->WInv i w->WR w->COk c->c.b=b->∃ w' c',Cn c c'/\WInv 28 w'/\WR w'/\∀ (m:Nat) (q:World->Cur->Option R),r<m ->
   s_l13Fs_l3 n b (fun i xh v v_1 v_2 v_3 v_4 v_5 v_6 v_7 v_8 v_9 v_10=>q ⟨⟨⟨⟨⟨v_1,v_2⟩,v_3,v_4⟩,v_5,v_6,v⟩,⟨v_7⟩⟩,v_8,v_9,v_10⟩ ⟨b,i,xh⟩) m (i:Int) c.i c.h w.Fs.Mem.Next w.Fs.Mem.Disk.Bits.Blocks w.Fs.Mem.Disk.Bits.Inos w.Fs.Mem.Disk.Inodes w.Fs.Mem.Disk.Blocks w.Fs.Mem.Dirty w.Fs.Mem.Deps w.Fs.Device.Units w.Model w.Codes w.Kept=q w' c'
 | r,i,w,c,h1,h2,h3,h4,h5=>by
  obtain ⟨x,c1,x1,x2,hc1,e1⟩:=below_draw (R:=R) 24 (by decide) (by decide) c h4
  have hcb:(⟨b,c.i,c.h⟩:Cur)=c:=by rw [← h5]
  have hc1b:(⟨b,c1.i,c1.h⟩:Cur)=c1:=by rw [← h5]; exact hc1.mk'
  by_cases hlt:(i:Int)<4+x
  ·match r,h1 with
   | 0,h1=>omega
   | r+1,h1 =>
    obtain ⟨e,c2,hc2,he,e2,e3⟩:=step_draw (R:=R) hn (t:=i) (by omega) w h2 c1 hc1.1
    obtain ⟨w',c',q1,q2,q3,q4⟩:=fs_loop hn b r (i+1) (doEv e w) c2 (by omega) (h2.step he) (h3.step he) hc2.1 (hc2.2.trans (hc1.2.trans h5))
    refine ⟨w',c',(hc1.tr hc2).tr q1,q2,q3,fun m q hm=> ?_⟩
    match m,hm with
    | m+1,hm =>
     simp only [s_l13Fs_l3]
     rw [hcb,e1,hc1b,w64_id (n:=4+x) (by omega) (by omega),decide_eq_true hlt,bif_t]
     refine (e2 _).trans ?_
     refine (e3 _).trans ?_
     rw [w64_suc (by omega)]
     exact q4 m q (by omega)
  ·refine ⟨w,c1,hc1,⟨h2.fs,Nat.le_trans h2.ml (by omega),h2.mp,Nat.le_trans h2.cl (by omega)⟩,h3,fun m q hm=> ?_⟩
   match m,hm with
   | m+1,hm =>
    simp only [s_l13Fs_l3]
    rw [hcb,e1,w64_id (n:=4+x) (by omega) (by omega),decide_eq_false hlt,bif_f]
    show q w ⟨b,c1.i,c1.h⟩=_
    rw [hc1b]
termination_by r=>r
theorem fs_draw {n:Nat} (hn:FUEL<=n) (c:Cur) (hc:COk c):∃ w c',Cn c c'/\WInv 28 w/\WR w/\∀ k:Fs->Cur->Option R,s_l13Fs n c k=k w.Fs c':=by
 obtain ⟨w',c',q1,q2,q3,q4⟩:=fs_loop (R:=R) hn c.b 28 0 ⟨fsNew,[],[],[]⟩ c rfl WInv.new WR.new hc rfl
 refine ⟨w',c',q1,q2,q3,fun k=> ?_⟩
 simp only [s_l13Fs]
 rw [FsNew_eq hn]
 exact q4 n (fun w c=>k w.Fs c) (fuel_lt hn (by omega))
theorem loop_drawU {σ:Type} {L:(Int->Int->σ->Option R)->Nat->Int->Int->Int->σ->Option R} {b:List UInt8} {len B:Nat} {I:Nat->σ->Prop} (hl:len<=4611686018427387904)
  (hs:∀ i (c:Cur) s,i<len->COk c->c.b=b->I i s->∃ c' s',Cn c c'/\I (i+1) s'/\∀ q m,B<m->L q (m+1) (i:Int) c.i c.h s=L q m (w64 ((i:Int)+1)) c'.i c'.h s')
  (hq:∀ q m (c:Cur) s,I len s->L q (m+1) (len:Int) c.i c.h s=q c.i c.h s) :
  ∀ (k i:Nat) (c:Cur) (s:σ),i+k=len->COk c->c.b=b->I i s->∃ c' s',Cn c c'/\I len s'/\∀ q m,k+B<m->L q m (i:Int) c.i c.h s=q c'.i c'.h s'
 | 0,i,c,s,h1,hc,hb,h3=>by
  have:i=len:=by omega
  subst this
  refine ⟨c,s,⟨hc,rfl⟩,h3,fun q m hm=> ?_⟩
  match m,hm with
  | m+1,_=>exact hq q m c s h3
 | k+1,i,c,s,h1,hc,hb,h3=>by
  obtain ⟨c1,s1,hc1,hi1,e1⟩:=hs i c s (by omega) hc hb h3
  obtain ⟨c2,s2,hc2,hi2,e2⟩:=loop_drawU hl hs hq k (i+1) c1 s1 (by omega) hc1.1 (hc1.2.trans hb) hi1
  refine ⟨c2,s2,hc1.tr hc2,hi2,fun q m hm=> ?_⟩
  match m,hm with
  | m+1,hm=>rw [e1 q m (by omega),w64_suc (by omega)]; exact e2 q m (by omega)
theorem Cn.mkb {c c':Cur} {b:List UInt8} (h:Cn c c') (hb:c.b=b):(⟨b,c'.i,c'.h⟩:Cur)=c':=by rw [← hb]; exact h.mk'
theorem cur_mk {c:Cur} {b:List UInt8} (hb:c.b=b):(⟨b,c.i,c.h⟩:Cur)=c:=by rw [← hb]
theorem within_of {x a b:Int} (h1:a<=x) (h2:x<=b):within x a b=true:=within_iff.2 ⟨h1,h2⟩
theorem inode_draw (c:Cur) (hc:COk c):∃ x c',inodeOk x=true/\Cn c c'/\∀ k:Inode->Cur->Option R,s_l03Inode c k=k x c':=by
 obtain ⟨r,c1,hr,hc1,e1⟩:=pickInt_draw (R:=R) [0,1,2] (by decide) (by decide) c hc
 have hr':r=0\/r=1\/r=2:=by simpa using hr
 by_cases h0:r=0
 ·subst h0
  refine ⟨inodeNew 0,c1,rfl,hc1,fun k=> ?_⟩
  simp only [s_l03Inode]
  rw [e1,InodeNew_eq,show (!((inodeNew 0).Kind==0))=false from rfl,bif_f,hc1.mk']
 ·obtain ⟨a,c2,a1,a2,hc2,e2⟩:=below_draw (R:=R) 4 (by decide) (by decide) c1 hc1.1
  obtain ⟨p,c3,p1,p2,hc3,e3⟩:=below_draw (R:=R) 17 (by decide) (by decide) c2 hc2.1
  obtain ⟨q,c4,q1,q2,hc4,e4⟩:=below_draw (R:=R) 17 (by decide) (by decide) c3 hc3.1
  obtain ⟨z,c5,hz,hc5,e5⟩:=pickInt_draw (R:=R) [0,0,q] (by simp) (by show 3<=LEN; decide) c4 hc4.1
  have hz':0<=z/\z<=16:=by
   simp only [List.mem_cons,List.not_mem_nil,or_false] at hz; omega
  have b2:=hc1.tr hc2
  have b3:=b2.tr hc3
  have b4:=b3.tr hc4
  have b5:=b4.tr hc5
  have hN:inodeNew r=⟨r,1,[0,0]⟩:=by rcases hr' with h | h | h<;>subst h<;>first | exact absurd rfl h0 | rfl
  refine ⟨⟨r,a,[p,z]⟩,c5,?_,b5,fun k=> ?_⟩
  ·have e1':(r==0)=false:=beq_eq_false_iff_ne.2 h0
   have e2':(r != 0)=true:=by simp only [bne,e1',Bool.not_false]
   simp only [inodeOk,within_of (show 0<=r by omega) (show r<=2 by omega),within_of (show 0<=a by omega) (show a<=200 by omega),within_of p1 (show p<=16 by omega),within_of hz'.1 hz'.2,e2',List.all_cons,List.all_nil,List.length_cons,List.length_nil]
   rfl
  ·simp only [s_l03Inode]
   rw [e1,InodeNew_eq,hN]
   rw [show (!((⟨r,1,[0,0]⟩:Inode).Kind==0))=true by simpa using h0,bif_t,hc1.mk',e2,b2.mk',e3,chk_of (by rfl),b3.mk',e4,b4.mk']
   refine (e5 _).trans ?_
   rw [chk_of (by rfl),b5.mk']; rfl
theorem byteOk_lt {x:Int} (h1:0<=x) (h2:x<=255):byteOk x=true:=by simp only [byteOk,Bool.and_eq_true,decide_eq_true_eq]; omega
theorem text_draw {n:Nat} (hn:FUEL<=n) (z:Nat) (hz:z<=5000) (c:Cur) (hc:COk c):∃ (s:ByteArray) (c':Cur),s.size=z/\Cn c c'/\∀ k:ByteArray->Cur->Option R,s_l01Text n (z:Int) c k=k s c':=by
 obtain ⟨c',s,hc',hI,e⟩:=loop_drawU (R:=R) (L:=fun q=>s_l01Text_l5 (z:Int) c.b q) (b:=c.b) (len:=z) (B:=0) (I:=fun i (s:List UInt8)=>s.length=i) (by omega)
  (fun i c0 s hi h1 h2 h3=>by
   obtain ⟨x,c1,x1,x2,hc1,e1⟩:=byte_draw (R:=R) c0 h1
   refine ⟨c1,s++[UInt8.ofNat (IntKind.u8.wrap x).toNat],hc1,by rw [List.length_append,h3,List.length_singleton],fun q m _=> ?_⟩
   simp only [s_l01Text_l5]
   rw [show decide ((i:Int)<(z:Int))=true by rw [decide_eq_true_eq]; omega,bif_t,cur_mk h2,e1,byteOk_u8,Bool.true_and,chk_t,chk_of (lenOk_app (i:=i) (by omega) (by omega) (by simp))])
  (fun q m c0 s h=>by simp [s_l01Text_l5]) z 0 c [] (by omega) hc rfl rfl
 refine ⟨mkS s,c',hI,hc',fun k=> ?_⟩
 simp only [s_l01Text]
 rw [show decide ((5000:Int)<(z:Int))=false by simp; omega,bif_f]
 refine (e _ n (fuel_lt hn (by omega))).trans ?_
 rw [hc'.mk']
theorem text_draw' {n:Nat} (hn:FUEL<=n) (x:Int) (h1:0<=x) (h2:x<=5000) (c:Cur) (hc:COk c):∃ (s:ByteArray) (c':Cur),(s.size:Int)=x/\Cn c c'/\∀ k:ByteArray->Cur->Option R,s_l01Text n x c k=k s c':=by
 obtain ⟨z,rfl⟩:=Int.eq_ofNat_of_zero_le h1
 obtain ⟨s,c',a,b,e⟩:=text_draw (R:=R) hn z (by omega) c hc
 exact ⟨s,c',by omega,b,e⟩
theorem long_eq {n:Nat} (hn:FUEL<=n) (z:Nat) (hz:z<=100000) (x:Int) (h1:0<=x) (h2:x<=255):∃ s:ByteArray,s.size=z/\∀ k:ByteArray->Option R,s_l01Long n (z:Int) x k=k s:=by
 have key:∀ (r i:Nat) (a:List UInt8),i+r=z->a.length=z->∃ a':List UInt8,a'.length=z/\∀ (q:List UInt8->Option R) (m:Nat),r<m->s_l01Long_l3 (z:Int) x q m (i:Int) a=q a':=by
  intro r
  induction r with
  | zero =>
   intro i a h1 h2
   refine ⟨a,h2,fun q m hm=> ?_⟩
   match m,hm with
   | m+1,_ =>
    simp only [s_l01Long_l3]
    rw [show decide ((i:Int)<(z:Int))=false by simp; omega,bif_f]
  | succ r ih =>
   intro i a h1' h2'
   obtain ⟨a',ha',e⟩:=ih (i+1) (a.set i (UInt8.ofNat x.toNat)) (by omega) (List.length_set.trans h2')
   refine ⟨a',ha',fun q m hm=> ?_⟩
   match m,hm with
   | m+1,hm =>
    simp only [s_l01Long_l3,inR_nat,h2']
    rw [show decide ((i:Int)<(z:Int))=true by rw [decide_eq_true_eq]; omega,bif_t,show decide (i<z)=true by rw [decide_eq_true_eq]; omega,chk_t,chk_of (byteOk_lt h1 h2),w64_suc (by omega),Int.toNat_natCast]
    exact e q m (by omega)
 obtain ⟨a',ha',e⟩:=key z 0 (List.replicate (z:Int).toNat 0) (by omega) (by simp)
 refine ⟨mkS a',ha',fun k=> ?_⟩
 simp only [s_l01Long]
 rw [chk_of (by
  simp only [mkOk,beq_self_eq_true,Bool.true_and,Bool.and_eq_true,decide_eq_true_eq]
  have hb:(z:Int).toNat<=1099511627776:=by omega
  exact ⟨by omega,Nat.ble_eq_true_of_le hb⟩)]
 exact e _ n (fuel_lt hn (by omega))
def SlotsOk (l:List Slot):Prop:=blockOk ⟨true,l,eS⟩=true
theorem block_l5 {n:Nat} (hn:FUEL<=n) (b:List UInt8) (c:Cur) (hc:COk c) (hb:c.b=b):∃ c' l,Cn c c'/\SlotsOk l/\∀ q:Int->Int->List Slot->Option R,s_l04Block_l5 n true eS b q n 0 c.i c.h (List.replicate 4 dSlot)=q c'.i c'.h l:=by
 obtain ⟨c',s,hc',hI,e⟩:=loop_drawU (R:=R) (L:=fun q=>s_l04Block_l5 n true eS b q) (b:=b) (len:=4) (B:=0) (I:=fun i (s:List Slot)=>SlotsOk s/\∀ t,i<=t->s.getD t dSlot=dSlot) (by omega)
  (fun i c0 s hi h1 h2 h3=>by
   obtain ⟨x,c1,hx,hc1,e1⟩:=name_draw (R:=R) c0 h1
   obtain ⟨a,c2,a1,a2,hc2,e2⟩:=below_draw (R:=R) 8 (by decide) (by decide) c1 hc1.1
   obtain ⟨o,c3,hc3,e3⟩:=once_draw (R:=R) 2 (by decide) (by decide) c2 hc2.1
   have hok:=(blockOk_dir (b:=⟨true,s,eS⟩) rfl).1 h3.1
   have hl4:s.length=4:=hok.1
   have m0:(⟨b,c0.i,c0.h⟩:Cur)=c0:=cur_mk h2
   have m1:(⟨b,c1.i,c1.h⟩:Cur)=c1:=hc1.mkb h2
   have m2:(⟨b,c2.i,c2.h⟩:Cur)=c2:=(hc1.tr hc2).mkb h2
   have hsl:∀ k:Int->Option R,s_SlotOf n ⟨true,s,eS⟩ x k=_:=fun k=>SlotOf_eq hn ⟨true,s,eS⟩ (by show s.length<=LEN; rw [hl4]; decide) x k
   have hrest:∀ t,i+1<=t->s.getD t dSlot=dSlot:=fun t ht=>h3.2 t (by omega)
   rcases slotOf_spec (b:=⟨true,s,eS⟩) (nm:=x) (nameOk_ne (names5_ok hx)) with ⟨hs,hno⟩ | ⟨j,hs,_⟩
   ·cases o with
    | true =>
     refine ⟨c3,s.set i ⟨x,1+a⟩,(hc1.tr hc2).tr hc3,⟨?_,fun t ht=> ?_⟩,fun q m _=> ?_⟩
     ·exact blockOk_slotSet (b:=⟨true,s,eS⟩) h3.1 rfl (by omega) (.inr ⟨names5_ok hx,⟨by show 1<=1+a; omega,by show 1+a<=8; omega⟩⟩) fun _ t _=>hno t
     ·rw [getD_set,if_neg (by omega)]; exact hrest t ht
     ·simp only [s_l04Block_l5]
      rw [show decide ((i:Int)<4)=true by rw [decide_eq_true_eq]; omega,bif_t,m0,e1,m1,e2,hsl,hs,m2,e3]
      rw [show decide ((-1:Int)<0)=true from rfl]
      simp only [cond_true,Bool.and_self,inR_nat,hl4]
      rw [show decide (i<4)=true by rw [decide_eq_true_eq]; omega,chk_t,w64_id (n:=1+a) (by omega) (by omega),Int.toNat_natCast]
    | false =>
     refine ⟨c3,s,(hc1.tr hc2).tr hc3,⟨h3.1,hrest⟩,fun q m _=> ?_⟩
     simp only [s_l04Block_l5]
     rw [show decide ((i:Int)<4)=true by rw [decide_eq_true_eq]; omega,bif_t,m0,e1,m1,e2,hsl,hs,m2,e3]
     rw [show decide ((-1:Int)<0)=true from rfl]
     simp only [cond_true,cond_false,Bool.and_false]
   ·refine ⟨c2,s,hc1.tr hc2,⟨h3.1,hrest⟩,fun q m _=> ?_⟩
    simp only [s_l04Block_l5]
    rw [show decide ((i:Int)<4)=true by rw [decide_eq_true_eq]; omega,bif_t,m0,e1,m1,e2,hsl,hs,m2,e3]
    rw [show decide (((j:Nat):Int)<0)=false by simp]
    simp only [cond_false,Bool.false_and])
  (fun q m c0 s h=>by simp [s_l04Block_l5]) 4 0 c (List.replicate 4 dSlot) (by omega) hc hb ⟨by show blockOk _=true; decide,fun t _=>by
   match t with
   | 0=>rfl
   | 1=>rfl
   | 2=>rfl
   | 3=>rfl
   | t+4=>rfl⟩
 exact ⟨c',s,hc',hI.1,fun q=>e q n (fuel_lt hn (by omega))⟩
theorem block_draw {n:Nat} (hn:FUEL<=n) (c:Cur) (hc:COk c):∃ x c',blockOk x=true/\Cn c c'/\∀ k:Block->Cur->Option R,s_l04Block n c k=k x c':=by
 obtain ⟨o,c1,hc1,e1⟩:=once_draw (R:=R) 2 (by decide) (by decide) c hc
 cases o with
 | true =>
  obtain ⟨z,c2,z1,z2,hc2,e2⟩:=below_draw (R:=R) 17 (by decide) (by decide) c1 hc1.1
  obtain ⟨s,c3,hs,hc3,e3⟩:=text_draw' (R:=R) hn z z1 (by omega) c2 hc2.1
  have b2:=hc1.tr hc2
  have b3:=b2.tr hc3
  refine ⟨⟨false,[],s⟩,c3,?_,b3,fun k=> ?_⟩
  ·simp only [blockOk,cond_false]
   have:s.size<=16:=by omega
   simp [this]
  ·simp only [s_l04Block]
   rw [e1,bif_t,hc1.mk',e2,b2.mk',e3,b3.mk']
 | false =>
  obtain ⟨c2,l,hc2,hl,e2⟩:=block_l5 (R:=R) hn c.b c1 hc1.1 hc1.2
  have b2:=hc1.tr hc2
  refine ⟨⟨true,l,eS⟩,c2,hl,b2,fun k=> ?_⟩
  simp only [s_l04Block]
  rw [e1,bif_f,DirNew_eq]
  refine (e2 _).trans ?_
  rw [b2.mk']
theorem wild_l3 {n:Nat} (hn:FUEL<=n) (b:List UInt8) (c:Cur) (hc:COk c) (hb:c.b=b) (l:List Inode) (hl:l.length=8) (hi:∀ x∈l,inodeOk x=true):∃ c' l',Cn c c'/\(l'.length=8/\∀ x∈l',inodeOk x=true)/\∀ q:Int->Int->List Inode->Option R,s_l07Wild_l3 b q n 0 c.i c.h l=q c'.i c'.h l':=by
 obtain ⟨c',s,hc',hI,e⟩:=loop_drawU (R:=R) (L:=fun q=>s_l07Wild_l3 b q) (b:=b) (len:=8) (B:=0) (I:=fun i (s:List Inode)=>s.length=8/\∀ x∈s,inodeOk x=true) (by omega)
  (fun i c0 s hi h1 h2 h3=>by
   obtain ⟨o,c1,hc1,e1⟩:=once_draw (R:=R) 2 (by decide) (by decide) c0 h1
   cases o with
   | true =>
    obtain ⟨x,c2,hx,hc2,e2⟩:=inode_draw (R:=R) c1 hc1.1
    refine ⟨c2,s.set i x,hc1.tr hc2,⟨List.length_set.trans h3.1,fun y hy=> ?_⟩,fun q m _=> ?_⟩
    ·rcases mem_set hy with z | z
     ·exact h3.2 y z
     ·rw [z]; exact hx
    ·simp only [s_l07Wild_l3]
     rw [show decide ((i:Int)<8)=true by rw [decide_eq_true_eq]; omega,bif_t,cur_mk h2,e1,bif_t,hc1.mkb h2,e2,inR_nat,h3.1,show decide (i<8)=true by rw [decide_eq_true_eq]; omega,chk_t,Int.toNat_natCast]
   | false =>
    refine ⟨c1,s,hc1,h3,fun q m _=> ?_⟩
    simp only [s_l07Wild_l3]
    rw [show decide ((i:Int)<8)=true by rw [decide_eq_true_eq]; omega,bif_t,cur_mk h2,e1,bif_f])
  (fun q m c0 s h=>by simp [s_l07Wild_l3]) 8 0 c l (by omega) hc hb ⟨hl,hi⟩
 exact ⟨c',s,hc',hI,fun q=>e q n (fuel_lt hn (by omega))⟩
theorem wild_l8 {n:Nat} (hn:FUEL<=n) (b:List UInt8) (c:Cur) (hc:COk c) (hb:c.b=b) (l:List Block) (hl:l.length=16) (hi:∀ x∈l,blockOk x=true):∃ c' l',Cn c c'/\(l'.length=16/\∀ x∈l',blockOk x=true)/\∀ q:Int->Int->List Block->Option R,s_l07Wild_l8 n b q n 0 c.i c.h l=q c'.i c'.h l':=by
 obtain ⟨c',s,hc',hI,e⟩:=loop_drawU (R:=R) (L:=fun q=>s_l07Wild_l8 n b q) (b:=b) (len:=16) (B:=0) (I:=fun i (s:List Block)=>s.length=16/\∀ x∈s,blockOk x=true) (by omega)
  (fun i c0 s hi h1 h2 h3=>by
   obtain ⟨o,c1,hc1,e1⟩:=once_draw (R:=R) 2 (by decide) (by decide) c0 h1
   cases o with
   | true =>
    obtain ⟨x,c2,hx,hc2,e2⟩:=block_draw (R:=R) hn c1 hc1.1
    refine ⟨c2,s.set i x,hc1.tr hc2,⟨List.length_set.trans h3.1,fun y hy=> ?_⟩,fun q m _=> ?_⟩
    ·rcases mem_set hy with z | z
     ·exact h3.2 y z
     ·rw [z]; exact hx
    ·simp only [s_l07Wild_l8]
     rw [show decide ((i:Int)<16)=true by rw [decide_eq_true_eq]; omega,bif_t,cur_mk h2,e1,bif_t,hc1.mkb h2,e2,inR_nat,h3.1,show decide (i<16)=true by rw [decide_eq_true_eq]; omega,chk_t,Int.toNat_natCast]
   | false =>
    refine ⟨c1,s,hc1,h3,fun q m _=> ?_⟩
    simp only [s_l07Wild_l8]
    rw [show decide ((i:Int)<16)=true by rw [decide_eq_true_eq]; omega,bif_t,cur_mk h2,e1,bif_f])
  (fun q m c0 s h=>by simp [s_l07Wild_l8]) 16 0 c l (by omega) hc hb ⟨hl,hi⟩
 exact ⟨c',s,hc',hI,fun q=>e q n (fuel_lt hn (by omega))⟩
theorem wild_l13 {n:Nat} (hn:FUEL<=n) (b:List UInt8) (c:Cur) (hc:COk c) (hb:c.b=b) (l:List Bool) (hl:l.length=16):∃ c' l',Cn c c'/\l'.length=16/\∀ q:Int->Int->List Bool->Option R,s_l07Wild_l13 b q n 0 c.i c.h l=q c'.i c'.h l':=by
 obtain ⟨c',s,hc',hI,e⟩:=loop_drawU (R:=R) (L:=fun q=>s_l07Wild_l13 b q) (b:=b) (len:=16) (B:=0) (I:=fun i (s:List Bool)=>s.length=16) (by omega)
  (fun i c0 s hi h1 h2 h3=>by
   obtain ⟨o,c1,hc1,e1⟩:=once_draw (R:=R) 2 (by decide) (by decide) c0 h1
   refine ⟨c1,s.set i o,hc1,List.length_set.trans h3,fun q m _=> ?_⟩
   simp only [s_l07Wild_l13]
   rw [show decide ((i:Int)<16)=true by rw [decide_eq_true_eq]; omega,bif_t,cur_mk h2,e1,inR_nat,h3,show decide (i<16)=true by rw [decide_eq_true_eq]; omega,chk_t,Int.toNat_natCast])
  (fun q m c0 s h=>by simp [s_l07Wild_l13]) 16 0 c l (by omega) hc hb hl
 exact ⟨c',s,hc',hI,fun q=>e q n (fuel_lt hn (by omega))⟩
def pqrs:List ByteArray:=[S [112],S [113],S [114],S [115]]
theorem wild_l20 {n:Nat} (hn:FUEL<=n) (b:List UInt8) (c:Cur) (hc:COk c) (hb:c.b=b) (di:List Inode) (p:Int) (p1:1<=p) (p2:p<=16) (hdi:di.length=8) (h0:(di.getD 0 dInode).Ptrs.length=2) (hp:(di.getD 0 dInode).Ptrs.getD 0 0=p) (l:List Block) (hl:l.length=16) (hi:∀ x∈l,blockOk x=true)
  (hn0:l.getD (p-1).toNat dBlock=⟨true,List.replicate 4 dSlot,eS⟩):∃ c' l',Cn c c'/\(l'.length=16/\∀ x∈l',blockOk x=true)/\∀ q:Int->Int->List Block->Option R,s_l07Wild_l20 b di q n 0 c.i c.h l=q c'.i c'.h l':=by
 obtain ⟨c',s,hc',hI,e⟩:=loop_drawU (R:=R) (L:=fun q=>s_l07Wild_l20 b di q) (b:=b) (len:=4) (B:=0) (I:=fun i (s:List Block)=>s.length=16/\(∀ x∈s,blockOk x=true)/\(s.getD (p-1).toNat dBlock).Dir=true/\(∀ t,i<=t->(s.getD (p-1).toNat dBlock).Slots.getD t dSlot=dSlot)/\∀ t,t<i->((s.getD (p-1).toNat dBlock).Slots.getD t dSlot).Name=pqrs.getD t eS) (by omega)
  (fun i c0 s hi h1 h2 h3=>by
   obtain ⟨a,c1,a1,a2,hc1,e1⟩:=below_draw (R:=R) 8 (by decide) (by decide) c0 h1
   obtain ⟨s1,s2,s3,s4,s5⟩:=h3
   have hlt:(p-1).toNat<s.length:=by omega
   have hbk:=s2 _ (getD_mem dBlock hlt)
   have hl4:=blockOk_slots hbk s3
   have hpq:nameOk (pqrs.getD i eS)=true:=by
    match i,hi with
    | 0,_=>decide
    | 1,_=>decide
    | 2,_=>decide
    | 3,_=>decide
   have hnew:blockOk (slotSet (s.getD (p-1).toNat dBlock) i ⟨pqrs.getD i eS,1+a⟩)=true:=by
    refine blockOk_slotSet hbk s3 (by omega) (.inr ⟨hpq,⟨by show 1<=1+a; omega,by show 1+a<=8; omega⟩⟩) fun _ t ht=> ?_
    by_cases hti:t<i
    ·rw [s5 t hti]
     show pqrs.getD t eS≠pqrs.getD i eS
     match i,hi,t,hti with
     | 1,_,0,_=>decide
     | 2,_,0,_=>decide
     | 2,_,1,_=>decide
     | 3,_,0,_=>decide
     | 3,_,1,_=>decide
     | 3,_,2,_=>decide
    ·rw [s4 t (by omega)]; exact fun z=>nameOk_ne hpq z.symm
   refine ⟨c1,s.set (p-1).toNat (slotSet (s.getD (p-1).toNat dBlock) i ⟨pqrs.getD i eS,1+a⟩),hc1,⟨List.length_set.trans s1,fun y hy=> ?_,?_,fun t ht=> ?_,fun t ht=> ?_⟩,fun q m _=> ?_⟩
   ·rcases mem_set hy with z | z
    ·exact s2 y z
    ·rw [z]; exact hnew
   ·rw [getD_set,if_pos ⟨rfl,hlt⟩]; exact s3
   ·rw [getD_set,if_pos ⟨rfl,hlt⟩]
    simp only [slotSet]; rw [getD_set,if_neg (by omega)]; exact s4 t (by omega)
   ·rw [getD_set,if_pos ⟨rfl,hlt⟩]
    simp only [slotSet]; rw [getD_set]
    split
    ·next q=>rw [q.1]
    ·next q=>exact s5 t (by omega)
   ·simp only [s_l07Wild_l20,hp]
    rw [show decide ((i:Int)<4)=true by rw [decide_eq_true_eq]; omega,bif_t,chk_of (by rw [hdi]; rfl),chk_of (by rw [h0]; rfl),w64_pred (by omega) (by omega),chk_of (inR_pred p1 (by omega)),
     show inR (i:Int) ([S [112],S [113],S [114],S [115]]:List ByteArray).length=true by rw [inR_nat,decide_eq_true_eq]; exact hi,chk_t,cur_mk h2,e1,inR_nat,hl4,show decide (i<4)=true by rw [decide_eq_true_eq]; omega,chk_t,w64_id (n:=1+a) (by omega) (by omega),Int.toNat_natCast]
    rfl)
  (fun q m c0 s h=>by simp [s_l07Wild_l20]) 4 0 c l (by omega) hc hb ⟨hl,hi,by rw [hn0],fun t _=>by
   rw [hn0]
   match t with
   | 0=>rfl
   | 1=>rfl
   | 2=>rfl
   | 3=>rfl
   | t+4=>rfl,fun t ht=>absurd ht (Nat.not_lt_zero t)⟩
 exact ⟨c',s,hc',⟨hI.1,hI.2.1⟩,fun q=>e q n (fuel_lt hn (by omega))⟩
theorem wild_draw {n:Nat} (hn:FUEL<=n) (c:Cur) (hc:COk c):∃ d c',DiskR d/\Cn c c'/\∀ k:Disk->Cur->Option R,s_l07Wild n c k=k d c':=by
 have hD:=diskOk_iff.1 diskOk_new
 obtain ⟨c1,l1,hc1,h1,e1⟩:=wild_l3 (R:=R) hn c.b c hc rfl diskNew.Inodes hD.di hD.ino
 obtain ⟨c2,l2,hc2,h2,e2⟩:=wild_l8 (R:=R) hn c.b c1 hc1.1 hc1.2 diskNew.Blocks hD.db hD.blk
 have b2:=hc1.tr hc2
 obtain ⟨c3,l3,hc3,h3,e3⟩:=wild_l13 (R:=R) hn c.b c2 hc2.1 b2.2 diskNew.Bits.Blocks hD.bb
 have b3:=b2.tr hc3
 obtain ⟨o,c4,hc4,e4⟩:=once_draw (R:=R) 6 (by decide) (by decide) c3 hc3.1
 have b4:=b3.tr hc4
 cases o with
 | true =>
  refine ⟨⟨⟨l3,diskNew.Bits.Inos⟩,l1,l2⟩,c4,⟨h3,hD.bi,h1.1,h2.1,h1.2,h2.2⟩,b4,fun k=> ?_⟩
  simp only [s_l07Wild]
  rw [DiskNew_eq hn]
  refine (e1 _).trans ((e2 _).trans ((e3 _).trans ?_))
  rw [b3.mk',e4,b4.mk']; rfl
 | false =>
  obtain ⟨p,c5,p1,p2,hc5,e5⟩:=below_draw (R:=R) 16 (by decide) (by decide) c4 hc4.1
  have b5:=b4.tr hc5
  obtain ⟨z,c6,z1,z2,hc6,e6⟩:=below_draw (R:=R) 17 (by decide) (by decide) c5 hc5.1
  have b6:=b5.tr hc6
  have hlt:(1+p-1).toNat<l2.length:=by rw [h2.1]; omega
  have hok0:inodeOk ⟨2,1,[1+p,z]⟩=true:=by
   simp only [inodeOk,within_of (show (0:Int)<=2 by decide) (show (2:Int)<=2 by decide),within_of (show (0:Int)<=1 by decide) (show (1:Int)<=200 by decide),within_of (show 0<=1+p by omega) (show 1+p<=16 by omega),within_of z1 (show z<=16 by omega),List.all_cons,List.all_nil,List.length_cons,List.length_nil]
   rfl
  have hg0:(l1.set 0 ⟨2,1,[1+p,z]⟩).getD 0 dInode=⟨2,1,[1+p,z]⟩:=by rw [getD_set,if_pos ⟨rfl,by omega⟩]
  obtain ⟨c7,l7,hc7,h7,e7⟩:=wild_l20 (R:=R) hn c.b c6 hc6.1 b6.2 (l1.set 0 ⟨2,1,[1+p,z]⟩) (1+p) (by omega) (by omega) (List.length_set.trans h1.1) (by rw [hg0]; rfl) (by rw [hg0]; rfl) (l2.set (1+p-1).toNat ⟨true,List.replicate 4 dSlot,eS⟩) (List.length_set.trans h2.1) (fun y hy=>by
   rcases mem_set hy with q | q
   ·exact h2.2 y q
   ·rw [q]; decide) (by rw [getD_set,if_pos ⟨rfl,hlt⟩])
  have b7:=b6.tr hc7
  refine ⟨⟨⟨l3,diskNew.Bits.Inos⟩,l1.set 0 ⟨2,1,[1+p,z]⟩,l7⟩,c7,⟨h3,hD.bi,List.length_set.trans h1.1,h7.1,fun y hy=> ?_,h7.2⟩,b7,fun k=> ?_⟩
  ·rcases mem_set hy with q | q
   ·exact h1.2 y q
   ·rw [q]; exact hok0
  ·simp only [s_l07Wild]
   rw [DiskNew_eq hn]
   refine (e1 _).trans ((e2 _).trans ((e3 _).trans ?_))
   rw [b3.mk',e4,Bool.not_false,bif_t,b4.mk',e5,b5.mk',e6,w64_id (n:=1+p) (by omega) (by omega),chk_of (by rw [h1.1]; rfl)]
   simp only [hg0]
   rw [chk_of (by rw [List.length_set,h1.1]; rfl),chk_of (by rfl),DirNew_eq,show ([1+p,z]:List Int).getD 0 0=1+p from rfl,w64_pred (by omega) (by omega),chk_of (inR_pred (by omega) (by rw [h2.1]; omega))]
   refine (e7 _).trans ?_
   rw [b7.mk']
theorem disk_draw {n:Nat} (hn:FUEL<=n) (c:Cur) (hc:COk c):∃ d c',DiskR d/\Cn c c'/\∀ k:Disk->Cur->Option R,s_l07Disk n c k=k d c':=by
 obtain ⟨o,c1,hc1,e1⟩:=once_draw (R:=R) 3 (by decide) (by decide) c hc
 cases o with
 | true =>
  obtain ⟨d,c2,hd,hc2,e2⟩:=wild_draw (R:=R) hn c1 hc1.1
  have b2:=hc1.tr hc2
  refine ⟨d,c2,hd,b2,fun k=> ?_⟩
  simp only [s_l07Disk]
  rw [e1,bif_t,hc1.mk',e2,b2.mk']
 | false =>
  obtain ⟨w,c2,hc2,hw,hr,e2⟩:=fs_draw (R:=R) hn c1 hc1.1
  have b2:=hc1.tr hc2
  obtain ⟨o2,c3,hc3,e3⟩:=once_draw (R:=R) 2 (by decide) (by decide) c2 hc2.1
  have b3:=b2.tr hc3
  cases o2 with
  | true =>
   refine ⟨w.Fs.Mem.Disk,c3,hw.fs.m.g.R.d,b3,fun k=> ?_⟩
   simp only [s_l07Disk]
   rw [e1,bif_f,hc1.mk',e2,b2.mk',e3,bif_t,l07Copy_eq hn _ hw.fs.m.g.R.d.t.sz,b3.mk']
  | false =>
   refine ⟨diskOfOk w.Fs.Device,c3,DiskR.of _,b3,fun k=> ?_⟩
   simp only [s_l07Disk]
   rw [e1,bif_f,hc1.mk',e2,b2.mk',e3,bif_f,DiskOf_eq hn _ (devLen' hw.fs.d),b3.mk']
   simp only [diskOf,hw.fs.d,cond_true]
theorem sub_tail {α:Type} (l:List α):sub l 1 (l.length-1)=l.drop 1:=by
 simp only [sub]; rw [List.take_of_length_le (by simp)]
theorem bits_l3 {n:Nat} (hn:FUEL<=n) (b:List UInt8) (c:Cur) (hc:COk c) (hb:c.b=b) (l:List Bool) (hl:l.length<=1000):∃ c' l',Cn c c'/\l'.length=l.length/\∀ q:Int->Int->List Bool->Option R,s_l05Bits_l3 b q n 0 c.i c.h l=q c'.i c'.h l':=by
 obtain ⟨c',s,hc',hI,e⟩:=loop_drawU (R:=R) (L:=fun q=>s_l05Bits_l3 b q) (b:=b) (len:=l.length) (B:=0) (I:=fun i (s:List Bool)=>s.length=l.length) (by omega)
  (fun i c0 s hi h1 h2 h3=>by
   obtain ⟨o,c1,hc1,e1⟩:=once_draw (R:=R) 2 (by decide) (by decide) c0 h1
   refine ⟨c1,s.set i o,hc1,List.length_set.trans h3,fun q m _=> ?_⟩
   simp only [s_l05Bits_l3,h3]
   rw [lt_nat,show decide (i<l.length)=true by rw [decide_eq_true_eq]; omega,bif_t,cur_mk h2,e1,inR_nat,show decide (i<l.length)=true by rw [decide_eq_true_eq]; omega,chk_t,Int.toNat_natCast])
  (fun q m c0 s h=>by simp [s_l05Bits_l3,h]) l.length 0 c l (by omega) hc hb rfl
 exact ⟨c',s,hc',hI,fun q=>e q n (fuel_lt hn (by omega))⟩
theorem bits_l7 {n:Nat} (hn:FUEL<=n) (b:List UInt8) (c:Cur) (hc:COk c) (hb:c.b=b) (l:List Bool) (hl:l.length<=1000):∃ c' l',Cn c c'/\l'.length=l.length/\∀ q:Int->Int->List Bool->Option R,s_l05Bits_l7 b q n 0 c.i c.h l=q c'.i c'.h l':=by
 obtain ⟨c',s,hc',hI,e⟩:=loop_drawU (R:=R) (L:=fun q=>s_l05Bits_l7 b q) (b:=b) (len:=l.length) (B:=0) (I:=fun i (s:List Bool)=>s.length=l.length) (by omega)
  (fun i c0 s hi h1 h2 h3=>by
   obtain ⟨o,c1,hc1,e1⟩:=once_draw (R:=R) 2 (by decide) (by decide) c0 h1
   refine ⟨c1,s.set i o,hc1,List.length_set.trans h3,fun q m _=> ?_⟩
   simp only [s_l05Bits_l7,h3]
   rw [lt_nat,show decide (i<l.length)=true by rw [decide_eq_true_eq]; omega,bif_t,cur_mk h2,e1,inR_nat,show decide (i<l.length)=true by rw [decide_eq_true_eq]; omega,chk_t,Int.toNat_natCast])
  (fun q m c0 s h=>by simp [s_l05Bits_l7,h]) l.length 0 c l (by omega) hc hb rfl
 exact ⟨c',s,hc',hI,fun q=>e q n (fuel_lt hn (by omega))⟩
theorem bits_draw {n:Nat} (hn:FUEL<=n) (c:Cur) (hc:COk c):∃ (x:Bits) (c':Cur),(x.Blocks.length<=16/\x.Inos.length<=9)/\Cn c c'/\∀ k:Bits->Cur->Option R,s_l05Bits n c k=k x c':=by
 obtain ⟨c1,l1,hc1,h1,e1⟩:=bits_l3 (R:=R) hn c.b c hc rfl (List.replicate 16 false) (by decide)
 obtain ⟨c2,l2,hc2,h2,e2⟩:=bits_l7 (R:=R) hn c.b c1 hc1.1 hc1.2 ((List.replicate 8 false).set 0 true) (by decide)
 have b2:=hc1.tr hc2
 obtain ⟨o,c3,hc3,e3⟩:=once_draw (R:=R) 10 (by decide) (by decide) c2 hc2.1
 have b3:=b2.tr hc3
 obtain ⟨o2,c4,hc4,e4⟩:=once_draw (R:=R) 10 (by decide) (by decide) c3 hc3.1
 have b4:=b3.tr hc4
 have h1:l1.length=16:=h1
 have h2:l2.length=8:=h2
 refine ⟨⟨bif o then l1.drop 1 else l1,bif o2 then l2++[true] else l2⟩,c4,⟨?_,?_⟩,b4,fun k=> ?_⟩
 ·cases o<;>simp [h1]
 ·cases o2<;>simp [h2]
 ·simp only [s_l05Bits,s_BitsNew]
  rw [chk_of (by rfl)]
  refine (e1 _).trans ((e2 _).trans ?_)
  have k1:loOk 1 l1.length=true:=by rw [h1]; rfl
  have k2:lenOk (l2++[true])=true:=lenOk_of (by rw [List.length_append,h2]; simp)
  rw [b2.mk',e3,b3.mk',sub_tail,k1,k2]
  simp only [e4,b4.mk',chk_t]
  cases o<;>cases o2<;>rfl
def InoA (x:Inode):Prop:=x.Ptrs.length<=2/\(-1<=x.Kind/\x.Kind<=3)/\(-1<=x.Links/\x.Links<=201)/\∀ p∈x.Ptrs,-1<=p/\p<=17
theorem InoA.of {x:Inode} (h:inodeOk x=true):InoA x:=by
 simp only [inodeOk,Bool.and_eq_true,within_iff,beq_iff_eq,List.all_eq_true] at h
 obtain ⟨h1,h2,h3,h4,_⟩:=h
 refine ⟨by omega,by omega,by omega,fun p hp=> ?_⟩
 have:=(h4 p hp).1
 omega
theorem inodeAny_draw (c:Cur) (hc:COk c):∃ x c',InoA x/\Cn c c'/\∀ k:Inode->Cur->Option R,s_l03Any c k=k x c':=by
 obtain ⟨x,c1,hx,hc1,e1⟩:=inode_draw (R:=R) c hc
 obtain ⟨r,c2,r1,r2,hc2,e2⟩:=below_draw (R:=R) 12 (by decide) (by decide) c1 hc1.1
 have b2:=hc1.tr hc2
 have hl:=inodeOk_len hx
 obtain ⟨a1,a2,a3,a4⟩:=InoA.of hx
 by_cases h0:r=0
 ·obtain ⟨z,c3,hz,hc3,e3⟩:=pickInt_draw (R:=R) [-1,0,3] (by decide) (by decide) c2 hc2.1
  have b3:=b2.tr hc3
  simp only [List.mem_cons,List.not_mem_nil,or_false] at hz
  refine ⟨⟨z,x.Links,x.Ptrs⟩,c3,⟨a1,by show -1<=z/\z<=3; omega,a3,a4⟩,b3,fun k=> ?_⟩
  simp only [s_l03Any]
  rw [e1,hc1.mk',e2,h0,show ((0:Int)==0)=true from rfl,bif_t,b2.mk',e3,b3.mk']
 ·by_cases h1:r=1
  ·obtain ⟨z,c3,hz,hc3,e3⟩:=pickInt_draw (R:=R) [-1,0,200,201] (by decide) (by decide) c2 hc2.1
   have b3:=b2.tr hc3
   simp only [List.mem_cons,List.not_mem_nil,or_false] at hz
   refine ⟨⟨x.Kind,z,x.Ptrs⟩,c3,⟨a1,a2,by show -1<=z/\z<=201; omega,a4⟩,b3,fun k=> ?_⟩
   simp only [s_l03Any]
   rw [e1,hc1.mk',e2,h1,show ((1:Int)==0)=false from rfl,bif_f,show ((1:Int)==1)=true from rfl,bif_t,b2.mk',e3,b3.mk']
  ·by_cases h2:r=2
   ·obtain ⟨z,c3,hz,hc3,e3⟩:=pickInt_draw (R:=R) [-1,16,17] (by decide) (by decide) c2 hc2.1
    have b3:=b2.tr hc3
    simp only [List.mem_cons,List.not_mem_nil,or_false] at hz
    refine ⟨⟨x.Kind,x.Links,x.Ptrs.set 0 z⟩,c3,⟨by show (x.Ptrs.set 0 z).length<=2; rw [List.length_set]; exact a1,a2,a3,fun p hp=> ?_⟩,b3,fun k=> ?_⟩
    ·rcases mem_set hp with q | q
     ·exact a4 p q
     ·rw [q]; omega
    ·simp only [s_l03Any]
     rw [e1,hc1.mk',e2,h2,show ((2:Int)==0)=false from rfl,bif_f,show ((2:Int)==1)=false from rfl,bif_f,show ((2:Int)==2)=true from rfl,bif_t,b2.mk',e3,chk_of (by rw [hl]; rfl),b3.mk']
   ·by_cases h3:r=3
    ·refine ⟨⟨x.Kind,x.Links,x.Ptrs.drop 1⟩,c2,⟨by show (x.Ptrs.drop 1).length<=2; rw [List.length_drop]; omega,a2,a3,fun p hp=>a4 p (List.mem_of_mem_drop hp)⟩,b2,fun k=> ?_⟩
     simp only [s_l03Any]
     rw [e1,hc1.mk',e2,h3,show ((3:Int)==0)=false from rfl,bif_f,show ((3:Int)==1)=false from rfl,bif_f,show ((3:Int)==2)=false from rfl,bif_f,show ((3:Int)==3)=true from rfl,bif_t,sub_tail,chk_of (by rw [hl]; rfl),b2.mk']
    ·refine ⟨x,c2,⟨a1,a2,a3,a4⟩,b2,fun k=> ?_⟩
     simp only [s_l03Any]
     rw [e1,hc1.mk',e2,beq_eq_false_iff_ne.2 h0,bif_f,beq_eq_false_iff_ne.2 h1,bif_f,beq_eq_false_iff_ne.2 h2,bif_f,beq_eq_false_iff_ne.2 h3,bif_f,b2.mk']
def BlkA (b:Block):Prop:=b.Slots.length<=4/\b.Text.size<=17/\∀ s∈b.Slots,s.Name.size<=7/\ -1<=s.Ino/\s.Ino<=9
theorem blockOk_nodir {b:Block} (h:blockOk b=true) (hd:b.Dir=false):b.Slots=[]/\b.Text.size<=16:=by
 simp only [blockOk,hd,cond_false,Bool.and_eq_true,beq_iff_eq,decide_eq_true_eq] at h
 exact ⟨List.length_eq_zero_iff.1 h.1,h.2⟩
theorem BlkA.of {b:Block} (h:blockOk b=true):BlkA b:=by
 cases hd:b.Dir with
 | false =>
  obtain ⟨h1,h2⟩:=blockOk_nodir h hd
  exact ⟨by rw [h1]; exact Nat.zero_le _,by omega,fun s hs=>by rw [h1] at hs; exact (List.not_mem_nil hs).elim⟩
 | true =>
  obtain ⟨h1,h2,h3,_⟩:=(blockOk_dir hd).1 h
  refine ⟨by omega,by rw [h2]; decide,fun s hs=> ?_⟩
  obtain ⟨i,hi,rfl⟩:=List.mem_iff_getElem.1 hs
  have:=h3 i (by omega)
  rw [getD_get _ _ hi] at this
  rcases this with q | ⟨q1,q2,q3⟩
  ·rw [q]; decide
  ·have:=(nameOk_size q1).2; omega
theorem blockAny_draw {n:Nat} (hn:FUEL<=n) (c:Cur) (hc:COk c):∃ x c',BlkA x/\Cn c c'/\∀ k:Block->Cur->Option R,s_l04Any n c k=k x c':=by
 obtain ⟨x,c1,hx,hc1,e1⟩:=block_draw (R:=R) hn c hc
 obtain ⟨r,c2,r1,r2,hc2,e2⟩:=below_draw (R:=R) 12 (by decide) (by decide) c1 hc1.1
 have b2:=hc1.tr hc2
 obtain ⟨a1,a2,a3⟩:=BlkA.of hx
 have hcp:∀ k:Block->Option R,s_l04Copy x k=k x:=fun k=>l04Copy_eq x (Nat.le_trans a1 (by decide)) k
 have hset:∀ (i:Nat) (s:Slot),(s.Name.size<=7/\ -1<=s.Ino/\s.Ino<=9)->∀ y∈x.Slots.set i s,y.Name.size<=7/\ -1<=y.Ino/\y.Ino<=9:=fun i s hs y hy=>by
  rcases mem_set hy with q | q
  ·exact a3 y q
  ·rw [q]; exact hs
 have hpos:0<x.Slots.length->x.Slots.length=4:=fun h=>by
  cases hd:x.Dir with
  | false=>rw [(blockOk_nodir hx hd).1] at h; cases h
  | true=>exact blockOk_slots hx hd
 by_cases h0:r=0
 ·refine ⟨⟨!x.Dir,x.Slots,x.Text⟩,c2,⟨a1,a2,a3⟩,b2,fun k=> ?_⟩
  simp only [s_l04Any]
  rw [e1,hcp,hc1.mk',e2,h0,show ((0:Int)==0)=true from rfl,bif_t,b2.mk']
 ·by_cases h1:r=1
  ·obtain ⟨z,c3,z1,z2,hc3,e3⟩:=below_draw (R:=R) 2 (by decide) (by decide) c2 hc2.1
   have b3:=b2.tr hc3
   obtain ⟨zn,rfl⟩:=Int.eq_ofNat_of_zero_le z1
   obtain ⟨s,hs,e4⟩:=long_eq (R:=R) hn (16+zn) (by omega) 65 (by decide) (by decide)
   refine ⟨⟨x.Dir,x.Slots,s⟩,c3,⟨a1,by show s.size<=17; omega,a3⟩,b3,fun k=> ?_⟩
   simp only [s_l04Any]
   rw [e1,hcp,hc1.mk',e2,h1,show ((1:Int)==0)=false from rfl,bif_f,show ((1:Int)==1)=true from rfl,bif_t,b2.mk',e3,show (16:Int)+(zn:Int)=((16+zn:Nat):Int) by omega,w64_nat (n:=16+zn) (by omega),e4,b3.mk']
  ·by_cases h2:r=2
   ·by_cases hp:0<x.Slots.length
    ·have h4:=hpos hp
     obtain ⟨z,c3,hz,hc3,e3⟩:=pickInt_draw (R:=R) [-1,0,8,9] (by decide) (by decide) c2 hc2.1
     have b3:=b2.tr hc3
     simp only [List.mem_cons,List.not_mem_nil,or_false] at hz
     refine ⟨⟨x.Dir,x.Slots.set 1 ⟨(x.Slots.getD 1 dSlot).Name,z⟩,x.Text⟩,c3,⟨by show (x.Slots.set 1 _).length<=4; rw [List.length_set]; exact a1,a2,hset 1 _ ⟨(a3 _ (getD_mem dSlot (by omega))).1,by show -1<=z; omega,by show z<=9; omega⟩⟩,b3,fun k=> ?_⟩
     simp only [s_l04Any]
     rw [e1,hcp,hc1.mk',e2,h2,show ((2:Int)==0)=false from rfl,bif_f,show ((2:Int)==1)=false from rfl,bif_f,show ((2:Int)==2)=true from rfl,bif_t,decide_eq_true (show (0:Int)<(x.Slots.length:Int) by omega),bif_t,b2.mk',e3,chk_of (by rw [h4]; rfl),b3.mk']
    ·refine ⟨x,c2,⟨a1,a2,a3⟩,b2,fun k=> ?_⟩
     simp only [s_l04Any]
     rw [e1,hcp,hc1.mk',e2,h2,show ((2:Int)==0)=false from rfl,bif_f,show ((2:Int)==1)=false from rfl,bif_f,show ((2:Int)==2)=true from rfl,bif_t,decide_eq_false (show ¬ (0:Int)<(x.Slots.length:Int) by omega),bif_f,b2.mk']
   ·by_cases h3:r=3
    ·by_cases hp:0<x.Slots.length
     ·have h4:=hpos hp
      obtain ⟨z,c3,hz,hc3,e3⟩:=pick_draw (R:=R) [eS,S [65],S [97],S [97,98,99,100,101,102,103]] (by decide) (by decide) c2 hc2.1
      have b3:=b2.tr hc3
      have hzs:z.size<=7:=by
       simp only [List.mem_cons,List.not_mem_nil,or_false] at hz
       rcases hz with rfl | rfl | rfl | rfl<;>decide
      refine ⟨⟨x.Dir,x.Slots.set 0 ⟨z,(x.Slots.getD 0 dSlot).Ino⟩,x.Text⟩,c3,⟨by show (x.Slots.set 0 _).length<=4; rw [List.length_set]; exact a1,a2,hset 0 _ ⟨hzs,(a3 _ (getD_mem dSlot (by omega))).2⟩⟩,b3,fun k=> ?_⟩
      simp only [s_l04Any]
      rw [e1,hcp,hc1.mk',e2,h3,show ((3:Int)==0)=false from rfl,bif_f,show ((3:Int)==1)=false from rfl,bif_f,show ((3:Int)==2)=false from rfl,bif_f,show ((3:Int)==3)=true from rfl,bif_t,decide_eq_true (show (0:Int)<(x.Slots.length:Int) by omega),bif_t,b2.mk',e3,chk_of (by rw [h4]; rfl),b3.mk']
     ·refine ⟨x,c2,⟨a1,a2,a3⟩,b2,fun k=> ?_⟩
      simp only [s_l04Any]
      rw [e1,hcp,hc1.mk',e2,h3,show ((3:Int)==0)=false from rfl,bif_f,show ((3:Int)==1)=false from rfl,bif_f,show ((3:Int)==2)=false from rfl,bif_f,show ((3:Int)==3)=true from rfl,bif_t,decide_eq_false (show ¬ (0:Int)<(x.Slots.length:Int) by omega),bif_f,b2.mk']
    ·refine ⟨x,c2,⟨a1,a2,a3⟩,b2,fun k=> ?_⟩
     simp only [s_l04Any]
     rw [e1,hcp,hc1.mk',e2,beq_eq_false_iff_ne.2 h0,bif_f,beq_eq_false_iff_ne.2 h1,bif_f,beq_eq_false_iff_ne.2 h2,bif_f,beq_eq_false_iff_ne.2 h3,bif_f,b2.mk']
structure DiskA (d:Disk):Prop where
 bb:d.Bits.Blocks.length<=16
 bi:d.Bits.Inos.length<=9
 di:d.Inodes.length=7\/d.Inodes.length=8
 db:d.Blocks.length=16
 ino:∀ x∈d.Inodes,InoA x
 blk:∀ b∈d.Blocks,BlkA b
theorem DiskA.of {d:Disk} (h:DiskR d):DiskA d:=⟨by rw [h.bb]; decide,by rw [h.bi]; decide,.inr h.di,h.db,fun x hx=>InoA.of (h.ino x hx),fun b hb=>BlkA.of (h.blk b hb)⟩
theorem DiskA.sz {d:Disk} (h:DiskA d):SzDisk d:=by
 refine ⟨Nat.le_trans h.bb (by decide),Nat.le_trans h.bi (by decide),?_,by rw [h.db]; decide,fun x hx=>Nat.le_trans (h.ino x hx).1 (by decide),fun b hb=> ?_⟩
 ·rcases h.di with q | q<;>rw [q]<;>decide
 ·obtain ⟨a1,a2,a3⟩:=h.blk b hb
  exact ⟨Nat.le_trans a1 (by decide),Nat.le_trans a2 (by decide),fun s hs=>Nat.le_trans (a3 s hs).1 (by decide)⟩
theorem diskAny_draw {n:Nat} (hn:FUEL<=n) (c:Cur) (hc:COk c):∃ x c',DiskA x/\Cn c c'/\∀ k:Disk->Cur->Option R,s_l07Any n c k=k x c':=by
 obtain ⟨d,c1,hd,hc1,e1⟩:=disk_draw (R:=R) hn c hc
 obtain ⟨r,c2,r1,r2,hc2,e2⟩:=below_draw (R:=R) 12 (by decide) (by decide) c1 hc1.1
 have b2:=hc1.tr hc2
 have hA:=DiskA.of hd
 have hcp:∀ k:Disk->Option R,s_l07Copy n d k=k d:=fun k=>l07Copy_eq hn d hA.sz k
 by_cases h0:r=0
 ·obtain ⟨b,c3,hb,hc3,e3⟩:=bits_draw (R:=R) hn c2 hc2.1
  have b3:=b2.tr hc3
  refine ⟨⟨b,d.Inodes,d.Blocks⟩,c3,⟨hb.1,hb.2,hA.di,hA.db,hA.ino,hA.blk⟩,b3,fun k=> ?_⟩
  simp only [s_l07Any]
  rw [e1,hcp,hc1.mk',e2,h0,show ((0:Int)==0)=true from rfl,bif_t,b2.mk',e3,b3.mk']
 ·by_cases h1:r=1
  ·obtain ⟨z,c3,z1,z2,hc3,e3⟩:=below_draw (R:=R) 8 (by decide) (by decide) c2 hc2.1
   have b3:=b2.tr hc3
   obtain ⟨x,c4,hx,hc4,e4⟩:=inodeAny_draw (R:=R) c3 hc3.1
   have b4:=b3.tr hc4
   refine ⟨⟨d.Bits,d.Inodes.set z.toNat x,d.Blocks⟩,c4,⟨hA.bb,hA.bi,by rw [List.length_set]; exact hA.di,hA.db,fun y hy=> ?_,hA.blk⟩,b4,fun k=> ?_⟩
   ·rcases mem_set hy with q | q
    ·exact hA.ino y q
    ·rw [q]; exact hx
   ·simp only [s_l07Any]
    rw [e1,hcp,hc1.mk',e2,h1,show ((1:Int)==0)=false from rfl,bif_f,show ((1:Int)==1)=true from rfl,bif_t,b2.mk',e3,b3.mk',e4,chk_of (by rw [hd.di]; simp only [inR,Bool.and_eq_true,decide_eq_true_eq]; omega),b4.mk']
  ·by_cases h2:r=2
   ·obtain ⟨z,c3,z1,z2,hc3,e3⟩:=below_draw (R:=R) 16 (by decide) (by decide) c2 hc2.1
    have b3:=b2.tr hc3
    obtain ⟨x,c4,hx,hc4,e4⟩:=blockAny_draw (R:=R) hn c3 hc3.1
    have b4:=b3.tr hc4
    refine ⟨⟨d.Bits,d.Inodes,d.Blocks.set z.toNat x⟩,c4,⟨hA.bb,hA.bi,hA.di,by rw [List.length_set]; exact hA.db,hA.ino,fun y hy=> ?_⟩,b4,fun k=> ?_⟩
    ·rcases mem_set hy with q | q
     ·exact hA.blk y q
     ·rw [q]; exact hx
    ·simp only [s_l07Any]
     rw [e1,hcp,hc1.mk',e2,h2,show ((2:Int)==0)=false from rfl,bif_f,show ((2:Int)==1)=false from rfl,bif_f,show ((2:Int)==2)=true from rfl,bif_t,b2.mk',e3,b3.mk',e4,chk_of (by rw [hd.db]; simp only [inR,Bool.and_eq_true,decide_eq_true_eq]; omega),b4.mk']
   ·by_cases h3:r=3
    ·refine ⟨⟨d.Bits,d.Inodes.drop 1,d.Blocks⟩,c2,⟨hA.bb,hA.bi,.inl (by rw [List.length_drop,hd.di]),hA.db,fun y hy=>hA.ino y (List.mem_of_mem_drop hy),hA.blk⟩,b2,fun k=> ?_⟩
     simp only [s_l07Any]
     rw [e1,hcp,hc1.mk',e2,h3,show ((3:Int)==0)=false from rfl,bif_f,show ((3:Int)==1)=false from rfl,bif_f,show ((3:Int)==2)=false from rfl,bif_f,show ((3:Int)==3)=true from rfl,bif_t,sub_tail,chk_of (by rw [hd.di]; rfl),b2.mk']
    ·refine ⟨d,c2,hA,b2,fun k=> ?_⟩
     simp only [s_l07Any]
     rw [e1,hcp,hc1.mk',e2,beq_eq_false_iff_ne.2 h0,bif_f,beq_eq_false_iff_ne.2 h1,bif_f,beq_eq_false_iff_ne.2 h2,bif_f,beq_eq_false_iff_ne.2 h3,bif_f,b2.mk']
structure MemA (m:Mem):Prop where
 d:DiskA m.Disk
 dy:20<=m.Dirty.length/\m.Dirty.length<=21
 dp:m.Deps.length<=37
 nx:0<=m.Next/\m.Next<=100001
 dep:∀ x∈m.Deps,SzDep x
theorem MemA.sz {m:Mem} (h:MemA m):SzMem m:=⟨h.d.sz,Nat.le_trans h.dy.2 (by decide),Nat.le_trans h.dp (by decide),h.dep⟩
theorem MemA.of {m:Mem} (h:MInv m):MemA m:=by
 have:=h.g.R.n1
 have:=h.g.R.n2
 have:=h.g.R.dy
 have:=h.len
 exact ⟨DiskA.of h.g.R.d,by omega,by omega,by omega,h.g.sz⟩
theorem mem_draw {n:Nat} (hn:FUEL<=n) (c:Cur) (hc:COk c):∃ w c',Cn c c'/\WInv 28 w/\WR w/\∀ k:Mem->Cur->Option R,s_l08Mem n c k=k w.Fs.Mem c':=by
 obtain ⟨w,c1,hc1,hw,hr,e1⟩:=fs_draw (R:=R) hn c hc
 refine ⟨w,c1,hc1,hw,hr,fun k=> ?_⟩
 simp only [s_l08Mem]
 rw [e1,hc1.mk']
theorem memAny_draw {n:Nat} (hn:FUEL<=n) (c:Cur) (hc:COk c):∃ x c',MemA x/\Cn c c'/\∀ k:Mem->Cur->Option R,s_l08Any n c k=k x c':=by
 obtain ⟨w,c1,hc1,hw,hr,e1⟩:=mem_draw (R:=R) hn c hc
 obtain ⟨r,c2,r1,r2,hc2,e2⟩:=below_draw (R:=R) 16 (by decide) (by decide) c1 hc1.1
 have b2:=hc1.tr hc2
 have hI:=hw.fs.m
 generalize w.Fs.Mem=m at *
 have hA:=MemA.of hI
 have hcp:∀ k:Mem->Option R,s_l08Copy n m k=k m:=fun k=>l08Copy_eq hn m hA.sz k
 have hlen:=hI.len
 have hdy:=hI.g.R.dy
 by_cases h0:r=0
 ·obtain ⟨d,c3,hd,hc3,e3⟩:=diskAny_draw (R:=R) hn c2 hc2.1
  have b3:=b2.tr hc3
  refine ⟨⟨d,m.Dirty,m.Deps,m.Next⟩,c3,⟨hd,hA.dy,hA.dp,hA.nx,hA.dep⟩,b3,fun k=> ?_⟩
  simp only [s_l08Any]
  rw [e1,hcp,hc1.mk',e2,h0,show ((0:Int)==0)=true from rfl,bif_t,b2.mk',e3,b3.mk']
 ·by_cases h1:r=1
  ·refine ⟨⟨m.Disk,m.Dirty.drop 1,m.Deps,m.Next⟩,c2,⟨hA.d,by show 20<=(m.Dirty.drop 1).length/\_; rw [List.length_drop]; omega,hA.dp,hA.nx,hA.dep⟩,b2,fun k=> ?_⟩
   simp only [s_l08Any]
   rw [e1,hcp,hc1.mk',e2,h1,show ((1:Int)==0)=false from rfl,bif_f,show ((1:Int)==1)=true from rfl,bif_t,sub_tail,chk_of (by rw [hdy]; rfl),b2.mk']
  ·by_cases h2:r=2
   ·obtain ⟨z,c3,hz,hc3,e3⟩:=pickInt_draw (R:=R) [0,1,100000,100001] (by decide) (by decide) c2 hc2.1
    have b3:=b2.tr hc3
    simp only [List.mem_cons,List.not_mem_nil,or_false] at hz
    refine ⟨⟨m.Disk,m.Dirty,m.Deps,z⟩,c3,⟨hA.d,hA.dy,hA.dp,by show 0<=z/\z<=100001; omega,hA.dep⟩,b3,fun k=> ?_⟩
    simp only [s_l08Any]
    rw [e1,hcp,hc1.mk',e2,h2,show ((2:Int)==0)=false from rfl,bif_f,show ((2:Int)==1)=false from rfl,bif_f,show ((2:Int)==2)=true from rfl,bif_t,b2.mk',e3,b3.mk']
   ·by_cases h3:r=3
    ·by_cases hp:0<m.Deps.length
     ·obtain ⟨x,c3,x1,x2,hc3,e3⟩:=below_draw (R:=R) (m.Deps.length:Int) (by omega) (by omega) c2 hc2.1
      have b3:=b2.tr hc3
      obtain ⟨y,c4,y1,y2,hc4,e4⟩:=below_draw (R:=R) 7 (by decide) (by decide) c3 hc3.1
      have b4:=b3.tr hc4
      obtain ⟨z,c5,hz,hc5,e5⟩:=pickInt_draw (R:=R) [-1,0,3,16,17] (by decide) (by decide) c4 hc4.1
      have b5:=b4.tr hc5
      have hin:inR x m.Deps.length=true:=by simp only [inR,Bool.and_eq_true,decide_eq_true_eq]; omega
      have hel:=hA.dep _ (getD_mem dDep (show x.toNat<m.Deps.length by omega))
      have hg:∀ y:Dep,(m.Deps.set x.toNat y).getD x.toNat dDep=y:=fun y=>by rw [getD_set,if_pos ⟨rfl,by omega⟩]
      refine ⟨⟨m.Disk,m.Dirty,(m.Deps.set x.toNat { m.Deps.getD x.toNat dDep with Kind:=y }).set x.toNat { m.Deps.getD x.toNat dDep with Kind:=y,Block:=z },m.Next⟩,c5,⟨hA.d,hA.dy,by show List.length _<=37; rw [List.length_set,List.length_set]; exact hA.dp,hA.nx,fun d hd=> ?_⟩,b5,fun k=> ?_⟩
      ·rcases mem_set hd with q | q
       ·rcases mem_set q with q | q
        ·exact hA.dep d q
        ·rw [q]; exact hel
       ·rw [q]; exact hel
      ·simp only [s_l08Any]
       rw [e1,hcp,hc1.mk',e2,h3,show ((3:Int)==0)=false from rfl,bif_f,show ((3:Int)==1)=false from rfl,bif_f,show ((3:Int)==2)=false from rfl,bif_f,show ((3:Int)==3)=true from rfl,bif_t,
        decide_eq_true (show (0:Int)<(m.Deps.length:Int) by omega),bif_t,b2.mk',e3,b3.mk',e4,chk_of hin,b4.mk',e5,List.length_set,chk_of hin,b5.mk']
       simp only [hg]
     ·refine ⟨m,c2,hA,b2,fun k=> ?_⟩
      simp only [s_l08Any]
      rw [e1,hcp,hc1.mk',e2,h3,show ((3:Int)==0)=false from rfl,bif_f,show ((3:Int)==1)=false from rfl,bif_f,show ((3:Int)==2)=false from rfl,bif_f,show ((3:Int)==3)=true from rfl,bif_t,
        decide_eq_false (show ¬ (0:Int)<(m.Deps.length:Int) by omega),bif_f,b2.mk']
    ·by_cases h4:r=4
     ·by_cases hp:0<m.Deps.length
      ·refine ⟨⟨m.Disk,m.Dirty,m.Deps++[m.Deps.getD 0 dDep],m.Next⟩,c2,⟨hA.d,hA.dy,by show List.length _<=37; rw [List.length_append,List.length_singleton]; omega,hA.nx,fun d hd=> ?_⟩,b2,fun k=> ?_⟩
       ·rcases List.mem_append.1 hd with q | q
        ·exact hA.dep d q
        ·rw [List.mem_singleton] at q; rw [q]; exact hA.dep _ (getD_mem dDep hp)
       ·simp only [s_l08Any]
        rw [e1,hcp,hc1.mk',e2,h4,show ((4:Int)==0)=false from rfl,bif_f,show ((4:Int)==1)=false from rfl,bif_f,show ((4:Int)==2)=false from rfl,bif_f,show ((4:Int)==3)=false from rfl,bif_f,show ((4:Int)==4)=true from rfl,bif_t,
         decide_eq_true (show (0:Int)<(m.Deps.length:Int) by omega),bif_t,chk_of (by simp only [inR,Bool.and_eq_true,decide_eq_true_eq]; omega),chk_of (lenOk_of (by rw [List.length_append,List.length_singleton]; omega)),b2.mk']
      ·refine ⟨m,c2,hA,b2,fun k=> ?_⟩
       simp only [s_l08Any]
       rw [e1,hcp,hc1.mk',e2,h4,show ((4:Int)==0)=false from rfl,bif_f,show ((4:Int)==1)=false from rfl,bif_f,show ((4:Int)==2)=false from rfl,bif_f,show ((4:Int)==3)=false from rfl,bif_f,show ((4:Int)==4)=true from rfl,bif_t,
         decide_eq_false (show ¬ (0:Int)<(m.Deps.length:Int) by omega),bif_f,b2.mk']
     ·refine ⟨m,c2,hA,b2,fun k=> ?_⟩
      simp only [s_l08Any]
      rw [e1,hcp,hc1.mk',e2,beq_eq_false_iff_ne.2 h0,bif_f,beq_eq_false_iff_ne.2 h1,bif_f,beq_eq_false_iff_ne.2 h2,bif_f,beq_eq_false_iff_ne.2 h3,bif_f,beq_eq_false_iff_ne.2 h4,bif_f,b2.mk']
theorem spoilt_draw {n:Nat} (hn:FUEL<=n) (s:ByteArray) (hs:s.size<=100000) (c:Cur) (hc:COk c):∃ (x:ByteArray) (c':Cur),x.size<=s.size+1/\Cn c c'/\∀ k:ByteArray->Cur->Option R,s_l02Spoilt n s c k=k x c':=by
 obtain ⟨r,c1,r1,r2,hc1,e1⟩:=below_draw (R:=R) 12 (by decide) (by decide) c hc
 by_cases h0:r=0
 ·obtain ⟨t,c2,ht,hc2,e2⟩:=text_draw (R:=R) hn 1 (by decide) c1 hc1.1
  have e2:∀ k:ByteArray->Cur->Option R,s_l01Text n 1 c1 k=k t c2:=e2
  have b2:=hc1.tr hc2
  refine ⟨s++t,c2,by rw [ByteArray.size_append]; omega,b2,fun k=> ?_⟩
  simp only [s_l02Spoilt]
  rw [e1,h0,show ((0:Int)==0)=true from rfl,bif_t,hc1.mk',e2,chk_of (sizeOk_of (by omega)),b2.mk']
 ·by_cases h1:r=1
  ·obtain ⟨z,c2,z1,z2,hc2,e2⟩:=below_draw (R:=R) ((s.size:Int)+1) (by omega) (by omega) c1 hc1.1
   have b2:=hc1.tr hc2
   refine ⟨s.extract 0 z.toNat,c2,by rw [ByteArray.size_extract]; omega,b2,fun k=> ?_⟩
   simp only [s_l02Spoilt]
   rw [e1,h1,show ((1:Int)==0)=false from rfl,bif_f,show ((1:Int)==1)=true from rfl,bif_t,hc1.mk',w64_id (n:=(s.size:Int)+1) (by omega) (by omega),e2,chk_of (by simp only [loOk,Bool.and_eq_true,decide_eq_true_eq]; omega),b2.mk']
  ·by_cases h23:(r=2\/r=3)/\0<s.size
   ·obtain ⟨z,c2,z1,z2,hc2,e2⟩:=below_draw (R:=R) (s.size:Int) (by omega) (by omega) c1 hc1.1
    have b2:=hc1.tr hc2
    obtain ⟨t,c3,ht,hc3,e3⟩:=text_draw (R:=R) hn 1 (by decide) c2 hc2.1
    have e3:∀ k:ByteArray->Cur->Option R,s_l01Text n 1 c2 k=k t c3:=e3
    have b3:=b2.tr hc3
    have k1:loOk z s.size=true:=by simp only [loOk,Bool.and_eq_true,decide_eq_true_eq]; omega
    have k2:loOk (w64 (z+1)) s.size=true:=by rw [w64_id (by omega) (by omega)]; simp only [loOk,Bool.and_eq_true,decide_eq_true_eq]; omega
    have k3:sizeOk (s.extract 0 z.toNat) t=true:=sizeOk_of (by rw [ByteArray.size_extract]; omega)
    have k4:sizeOk (s.extract 0 z.toNat++t) (s.extract (w64 (z+1)).toNat s.size)=true:=sizeOk_of (by rw [ByteArray.size_append,ByteArray.size_extract,ByteArray.size_extract]; omega)
    refine ⟨(s.extract 0 z.toNat++t)++s.extract (w64 (z+1)).toNat s.size,c3,?_,b3,fun k=> ?_⟩
    ·rw [ByteArray.size_append,ByteArray.size_append,ByteArray.size_extract,ByteArray.size_extract,w64_id (by omega) (by omega)]; omega
    ·simp only [s_l02Spoilt]
     rw [e1]
     rcases h23.1 with h2 | h2<;>subst h2
     ·rw [show ((2:Int)==0)=false from rfl,bif_f,show ((2:Int)==1)=false from rfl,bif_f,show ((2:Int)==2)=true from rfl,bif_t,bif_t,decide_eq_true (show (0:Int)<(s.size:Int) by omega),bif_t,hc1.mk',e2,chk_of k1,b2.mk',e3,chk_of k3,chk_of k2,chk_of k4,b3.mk']
     ·rw [show ((3:Int)==0)=false from rfl,bif_f,show ((3:Int)==1)=false from rfl,bif_f,show ((3:Int)==2)=false from rfl,bif_f,show ((3:Int)==3)=true from rfl,bif_t,decide_eq_true (show (0:Int)<(s.size:Int) by omega),bif_t,hc1.mk',e2,chk_of k1,b2.mk',e3,chk_of k3,chk_of k2,chk_of k4,b3.mk']
   ·refine ⟨s,c1,by omega,hc1,fun k=> ?_⟩
    simp only [s_l02Spoilt]
    rw [e1,beq_eq_false_iff_ne.2 h0,bif_f,beq_eq_false_iff_ne.2 h1,bif_f,hc1.mk']
    by_cases h2:r=2
    ·rw [h2,show ((2:Int)==2)=true from rfl,bif_t,bif_t,decide_eq_false (show ¬ (0:Int)<(s.size:Int) by intro q; exact h23 ⟨.inl h2,by omega⟩),bif_f]
    ·rw [beq_eq_false_iff_ne.2 h2,bif_f]
     by_cases h3:r=3
     ·rw [h3,show ((3:Int)==3)=true from rfl,bif_t,decide_eq_false (show ¬ (0:Int)<(s.size:Int) by intro q; exact h23 ⟨.inr h3,by omega⟩),bif_f]
     ·rw [beq_eq_false_iff_ne.2 h3,bif_f]
theorem bitsText_size (b:Bits):(bitsText b).size<=3:=by
 simp only [bitsText]
 cases bitsOk b<;>simp [mkS_size,eS_size]
theorem slotsT_size (l:List Slot):∀ a:ByteArray,(∀ s∈l,s.Name.size<=6)->(slotsT a l).size<=a.size+17*l.length:=by
 induction l with
 | nil=>intro a _; simp [slotsT]
 | cons s l ih =>
  intro a h
  have h1:=h s List.mem_cons_self
  have h2:=slotT_size s
  have h3:=ih (a++slotT s) fun x hx=>h x (List.mem_cons_of_mem _ hx)
  show (slotsT (a++slotT s) l).size<=_
  rw [ByteArray.size_append] at h3
  rw [List.length_cons]; omega
theorem blockText_size {b:Block} (h:blockOk b=true):(blockText b).size<=100:=by
 simp only [blockText,h,cond_true]
 cases hd:b.Dir with
 | false =>
  have:=(blockOk_nodir h hd).2
  rw [cond_false,ByteArray.size_append,show (S [116]).size=1 from rfl]; omega
 | true =>
  obtain ⟨h1,h2,h3,_⟩:=(blockOk_dir hd).1 h
  rw [cond_true]
  have:=slotsT_size b.Slots (S [100]) fun s hs=>by
   obtain ⟨i,hi,rfl⟩:=List.mem_iff_getElem.1 hs
   have:=h3 i (by omega)
   rw [getD_get _ _ hi] at this
   rcases this with q | q
   ·rw [q]; decide
   ·exact (nameOk_size q.1).2
  rw [show (S [100]).size=1 from rfl,h1] at this
  omega
theorem unitOf_size {d:Disk} (h:DiskR d) {u:Int} (u0:0<=u) (u1:u<=20):(unitOf d u).size<=100:=by
 simp only [unitOf]
 cases hu:u==0 with
 | true=>rw [cond_true]; have:=bitsText_size d.Bits; omega
 | false =>
  rw [cond_false]
  cases h4:decide (u<=4) with
  | true =>
   rw [cond_true,ByteArray.size_append]
   have h1:=inodeText_size (d.Inodes.getD (2*u-2).toNat dInode)
   have h2:=inodeText_size (d.Inodes.getD (2*u-1).toNat dInode)
   omega
  | false =>
   rw [cond_false]
   have:=h.db
   rw [decide_eq_false_iff_not] at h4
   exact blockText_size (h.blk _ (getD_mem dBlock (by omega)))
def DevA (d:Device):Prop:=(d.Units.length=21\/d.Units.length=22)/\∀ s∈d.Units,s.size<=101
theorem deviceOf_A {d:Disk} (h:DiskR d):(deviceOf d).1.Units.length=21/\∀ s∈(deviceOf d).1.Units,s.size<=100:=by
 simp only [deviceOf,diskOk_iff.2 h,cond_true]
 refine ⟨by simp,fun s hs=> ?_⟩
 obtain ⟨u,hu,rfl⟩:=List.mem_map.1 hs
 rw [List.mem_range'_1] at hu
 exact unitOf_size h (by omega) (by omega)
theorem device_draw {n:Nat} (hn:FUEL<=n) (c:Cur) (hc:COk c):∃ x c',DevA x/\Cn c c'/\∀ k:Device->Cur->Option R,s_l06Device n c k=k x c':=by
 obtain ⟨d,c1,hd,hc1,e1⟩:=disk_draw (R:=R) hn c hc
 obtain ⟨r,c2,r1,r2,hc2,e2⟩:=below_draw (R:=R) 8 (by decide) (by decide) c1 hc1.1
 have b2:=hc1.tr hc2
 have hdv:∀ k:Device->Bool->Option R,s_DeviceOf n d k=k (deviceOf d).1 (deviceOf d).2:=fun k=>DeviceOf_eq hn d hd.t.sz k
 obtain ⟨v1,v2⟩:=deviceOf_A hd
 generalize (deviceOf d).1=v at *
 have hset:∀ (i:Nat) (s:ByteArray),s.size<=101->DevA ⟨v.Units.set i s⟩:=fun i s hs=>⟨.inl (List.length_set.trans v1),fun y hy=>by
  rcases mem_set hy with q | q
  ·have:=v2 y q; omega
  ·rw [q]; exact hs⟩
 by_cases h0:r=0
 ·obtain ⟨u,c3,u1,u2,hc3,e3⟩:=below_draw (R:=R) 21 (by decide) (by decide) c2 hc2.1
  have b3:=b2.tr hc3
  obtain ⟨z,c4,z1,z2,hc4,e4⟩:=below_draw (R:=R) 6 (by decide) (by decide) c3 hc3.1
  have b4:=b3.tr hc4
  obtain ⟨t,c5,ht,hc5,e5⟩:=text_draw' (R:=R) hn z z1 (by omega) c4 hc4.1
  have b5:=b4.tr hc5
  refine ⟨⟨v.Units.set u.toNat t⟩,c5,hset _ _ (by omega),b5,fun k=> ?_⟩
  simp only [s_l06Device]
  rw [e1,hdv,hc1.mk',e2,h0,show ((0:Int)==0)=true from rfl,bif_t,b2.mk',e3,b3.mk',e4,b4.mk',e5,chk_of (by rw [v1]; simp only [inR,Bool.and_eq_true,decide_eq_true_eq]; omega),b5.mk']
 ·by_cases h1:r=1
  ·obtain ⟨u,c3,u1,u2,hc3,e3⟩:=below_draw (R:=R) 21 (by decide) (by decide) c2 hc2.1
   have b3:=b2.tr hc3
   obtain ⟨z,c4,z1,z2,hc4,e4⟩:=below_draw (R:=R) 2 (by decide) (by decide) c3 hc3.1
   have b4:=b3.tr hc4
   obtain ⟨zn,rfl⟩:=Int.eq_ofNat_of_zero_le z1
   obtain ⟨s,hs,e5⟩:=long_eq (R:=R) hn (60+zn) (by omega) 65 (by decide) (by decide)
   refine ⟨⟨v.Units.set u.toNat s⟩,c4,hset _ _ (by omega),b4,fun k=> ?_⟩
   simp only [s_l06Device]
   rw [e1,hdv,hc1.mk',e2,h1,show ((1:Int)==0)=false from rfl,bif_f,show ((1:Int)==1)=true from rfl,bif_t,b2.mk',e3,b3.mk',e4,show (60:Int)+(zn:Int)=((60+zn:Nat):Int) by omega,w64_nat (n:=60+zn) (by omega),e5,chk_of (by rw [v1]; simp only [inR,Bool.and_eq_true,decide_eq_true_eq]; omega),b4.mk']
  ·by_cases h2:r=2
   ·refine ⟨⟨v.Units++[S [120]]⟩,c2,⟨.inr (by show (v.Units++[S [120]]).length=22; rw [List.length_append,v1]; rfl),fun y hy=> ?_⟩,b2,fun k=> ?_⟩
    ·rcases List.mem_append.1 hy with q | q
     ·have:=v2 y q; omega
     ·rw [List.mem_singleton] at q; rw [q]; decide
    ·simp only [s_l06Device]
     rw [e1,hdv,hc1.mk',e2,h2,show ((2:Int)==0)=false from rfl,bif_f,show ((2:Int)==1)=false from rfl,bif_f,show ((2:Int)==2)=true from rfl,bif_t,chk_of (lenOk_of (by rw [List.length_append,v1]; simp)),b2.mk']
   ·by_cases h3:r=3
    ·obtain ⟨u,c3,u1,u2,hc3,e3⟩:=below_draw (R:=R) 21 (by decide) (by decide) c2 hc2.1
     have b3:=b2.tr hc3
     have hu:=v2 _ (getD_mem eS (show u.toNat<v.Units.length by omega))
     obtain ⟨t,c4,ht,hc4,e4⟩:=spoilt_draw (R:=R) hn (v.Units.getD u.toNat eS) (by omega) c3 hc3.1
     have b4:=b3.tr hc4
     refine ⟨⟨v.Units.set u.toNat t⟩,c4,hset _ _ (by omega),b4,fun k=> ?_⟩
     simp only [s_l06Device]
     have hin:inR u v.Units.length=true:=by rw [v1]; simp only [inR,Bool.and_eq_true,decide_eq_true_eq]; omega
     rw [e1,hdv,hc1.mk',e2,h3,show ((3:Int)==0)=false from rfl,bif_f,show ((3:Int)==1)=false from rfl,bif_f,show ((3:Int)==2)=false from rfl,bif_f,show ((3:Int)==3)=true from rfl,bif_t,b2.mk',e3,chk_of hin,b3.mk',e4,chk_of hin,b4.mk']
    ·refine ⟨v,c2,⟨.inl v1,fun y hy=>by have:=v2 y hy; omega⟩,b2,fun k=> ?_⟩
     simp only [s_l06Device]
     rw [e1,hdv,hc1.mk',e2,beq_eq_false_iff_ne.2 h0,bif_f,beq_eq_false_iff_ne.2 h1,bif_f,beq_eq_false_iff_ne.2 h2,bif_f,beq_eq_false_iff_ne.2 h3,bif_f,b2.mk']
theorem DevA.len {d:Device} (h:DevA d):d.Units.length<=LEN:=by rcases h.1 with q | q<;>rw [q]<;>decide
theorem new_draw {n:Nat} (hn:FUEL<=n) (code:List UInt8) (hc:code.length<=LEN):∃ c:Cur,COk c/\∀ k:Cur->Option R,s_l01New n code k=k c:=by
 have hc':code.length<=2097152:=hc
 have key:∀ (r i:Nat) (h:Int),i+r=code.length->∃ h':Int,∀ (q:Int->Option R) (m:Nat),r<m->s_l01New_l3 code q m h (i:Int)=q h':=by
  intro r
  induction r with
  | zero =>
   intro i h h1
   refine ⟨h,fun q m hm=> ?_⟩
   match m,hm with
   | m+1,_ =>
    simp only [s_l01New_l3]
    rw [lt_nat,show decide (i<code.length)=false by simp; omega,Bool.false_and,bif_f]
  | succ r ih =>
   intro i h h1
   by_cases h4:(i:Int)<4000
   ·obtain ⟨h',e⟩:=ih (i+1) (andK .i64 (w64 ((w64 ((w64 (h*131))+(w64 (((code.getD (i:Int).toNat 0).toNat:Int)))))+7)) 1073741823) (by omega)
    refine ⟨h',fun q m hm=> ?_⟩
    match m,hm with
    | m+1,hm =>
     simp only [s_l01New_l3]
     rw [lt_nat,show decide (i<code.length)=true by rw [decide_eq_true_eq]; omega,decide_eq_true h4,Bool.and_self,bif_t,inR_nat,show decide (i<code.length)=true by rw [decide_eq_true_eq]; omega,chk_t,w64_suc (by omega)]
     exact e q m (by omega)
   ·refine ⟨h,fun q m hm=> ?_⟩
    match m,hm with
    | m+1,_ =>
     simp only [s_l01New_l3]
     rw [decide_eq_false h4,Bool.and_false,bif_f]
 obtain ⟨h',e⟩:=key code.length 0 (w64 (37701+(code.length:Int))) (by omega)
 refine ⟨⟨code,0,h'⟩,⟨Int.le_refl 0,hc⟩,fun k=> ?_⟩
 simp only [s_l01New]
 exact e _ n (fuel_lt hn (by omega))
theorem drawDisk {n:Nat} (hn:FUEL<=n) (code:List UInt8) (hc:code.length<=LEN):∃ d,DiskR d/\∀ k:Disk->Option R,s_DrawDisk n code k=k d:=by
 obtain ⟨c,h1,e1⟩:=new_draw (R:=R) hn code hc
 obtain ⟨d,c2,hd,hc2,e2⟩:=disk_draw (R:=R) hn c h1
 refine ⟨d,hd,fun k=> ?_⟩
 simp only [s_DrawDisk]
 rw [e1,e2,l07Copy_eq hn d hd.t.sz]
theorem placeIn_cases {α:Type} (P:α->Bool) (x:α) (l:List α):(P x=true/\placeIn P (x::l)=0)\/(P x=false/\placeIn P l= -1/\placeIn P (x::l)= -1)\/(P x=false/\0<=placeIn P l/\placeIn P (x::l)=placeIn P l+1):=by
 simp only [placeIn]
 cases h:P x with
 | true=>exact .inl ⟨rfl,rfl⟩
 | false =>
  rcases placeIn_ge P l with h | ⟨j,h,_⟩
  ·rw [h]; exact .inr (.inl ⟨rfl,rfl,rfl⟩)
  ·rw [h]; exact .inr (.inr ⟨rfl,by omega,rfl⟩)
theorem placeIn_any {α:Type} (P:α->Bool):∀ l:List α,decide (0<=placeIn P l)=l.any P
 | []=>rfl
 | x::l=>by
  have ih:=placeIn_any P l
  rw [List.any_cons]
  rcases placeIn_cases P x l with ⟨h1,h2⟩ | ⟨h1,h2,h3⟩ | ⟨h1,h2,h3⟩
  ·rw [h2,h1]; rfl
  ·rw [h3,h1,← ih,h2]; rfl
  ·rw [h3,h1,← ih,decide_eq_true h2,decide_eq_true (by omega)]; rfl
theorem loop_place {α:Type} {L:Nat->Int->Option R} {l:List α} (d:α) {P:α->Bool} {e:Int->Option R} {B:Nat} (hl:l.length<=4611686018427387904)
  (hs:∀ m i,B<m->i<l.length->L (m+1) (i:Int)=bif P (l.getD i d) then e i else L m (w64 ((i:Int)+1))) (hq:∀ m,L (m+1) (l.length:Int)=e (-1)) {n:Nat} (hn:l.length+B<n):L n 0=e (placeIn P l):=by
 have key:∀ (s:List α) (j m:Nat),s=l.drop j->j<=l.length->s.length+B<m->L m (j:Int)=e (if 0<=placeIn P s then (j:Int)+placeIn P s else -1):=by
  intro s
  induction s with
  | nil =>
   intro j m h1 h2 h3
   have:j=l.length:=by have:=congrArg List.length h1; simp at this; omega
   match m,h3 with
   | m+1,_=>rw [this,hq]; rfl
  | cons x s ih =>
   intro j m h1 h2 h3
   have hj:j<l.length:=by have:=congrArg List.length h1; simp at this; omega
   have hd:=drop_getD d hj
   rw [← h1] at hd; injection hd with hb hss
   rw [List.length_cons] at h3
   match m,h3 with
   | m+1,h3 =>
    rw [hs m j (by omega) hj,← hb]
    rcases placeIn_cases P x s with ⟨q1,q2⟩ | ⟨q1,q2,q3⟩ | ⟨q1,q2,q3⟩
    ·rw [q1,q2,if_pos (Int.le_refl 0),Int.add_zero]; rfl
    ·rw [q1,bif_f,w64_suc (by omega),ih (j+1) m hss (by omega) (by omega),q2,q3,if_neg (by decide),if_neg (by decide)]
    ·rw [q1,bif_f,w64_suc (by omega),ih (j+1) m hss (by omega) (by omega),q3,if_pos q2,if_pos (by omega)]
     congr 1; omega
 have:=key l 0 n (by simp) (by omega) hn
 rw [show ((0:Nat):Int)=0 from rfl] at this
 rw [this]
 congr 1
 rcases placeIn_ge P l with h | ⟨j,h,_⟩
 ·rw [h]; rfl
 ·rw [h,if_pos (by omega)]; omega
theorem Contains_bool_eq {n:Nat} (hn:FUEL<=n) (s:List Bool) (hs:s.length<=LEN) (v:Bool) (k:Bool->Option R):slices_Contains_bool n s v k=k (s.any fun x=>v==x):=by
 have hs':s.length<=2097152:=hs
 simp only [slices_Contains_bool,slices_Index_bool]
 rw [← placeIn_any]
 exact loop_place (R:=R) (L:=slices_Index_bool_l2 v (s.length:Int) s (fun x=>k (decide (0<=x))) (k (decide ((0:Int)<= -1)))) (l:=s) false (B:=0) (P:=fun x=>v==x) (e:=fun i=>k (decide (0<=i))) (by omega)
  (fun m i _ hi=>by simp only [slices_Index_bool_l2,lt_nat,inR_nat,hi,decide_true,chk_t,cond_true,Int.toNat_natCast]) (fun m=>by simp [slices_Index_bool_l2]) (fuel_lt hn (by omega))
def settled (m:Mem):Bool:=(!m.Dirty.any fun x=>true==x)&&(m.Deps.length==0)
theorem i_Settled_eq {n:Nat} (hn:FUEL<=n) (m:Mem) (hd:m.Dirty.length<=LEN) (k:Bool->Option R):i_Settled n m k=k (settled m):=by
 simp only [i_Settled,settled]
 rw [Contains_bool_eq hn _ hd,show (0:Int)=((0:Nat):Int) from rfl,int_beq]
theorem settled_loop {n:Nat} (hn:FUEL<=n) (y:List Bool) (hy:y.length<=LEN) (q:Bool->Option R):w_FnSettled_l6 y q n false 0=q (y.any fun x=>true==x):=by
 have hy':y.length<=2097152:=hy
 have key:∀ (s:List Bool) (j m:Nat) (d:Bool),s=y.drop j->j<=y.length->s.length<m->w_FnSettled_l6 y q m d (j:Int)=q (d||s.any fun x=>true==x):=by
  intro s
  induction s with
  | nil =>
   intro j m d h1 h2 h3
   have:j=y.length:=by have:=congrArg List.length h1; simp at this; omega
   match m,h3 with
   | m+1,_=>simp [w_FnSettled_l6,this]
  | cons b s ih =>
   intro j m d h1 h2 h3
   have hj:j<y.length:=by have:=congrArg List.length h1; simp at this; omega
   have hd:=drop_getD false hj
   rw [← h1] at hd; injection hd with hb hs
   match m,h3 with
   | m+1,h3 =>
    simp only [w_FnSettled_l6,lt_nat,inR_nat,hj,decide_true,Bool.or_true,chk_t,cond_true,Int.toNat_natCast,← hb]
    rw [w64_suc (by omega),ih (j+1) m _ hs (by omega) (by simp at h3; omega),List.any_cons,Bool.or_assoc]
    congr 1
    cases b<;>rfl
 have:=key y 0 n false (by simp) (by omega) (fuel_lt hn (by omega))
 rw [Bool.false_or] at this
 exact this
theorem drawSettled {n:Nat} (hn:FUEL<=n) (code:List UInt8) (hc:code.length<=LEN):∃ m,SzMem m/\∀ k:Mem->Option R,s_DrawSettled n code k=k m:=by
 obtain ⟨c,h0,e0⟩:=new_draw (R:=R) hn code hc
 obtain ⟨m,c1,hm,hc1,e1⟩:=memAny_draw (R:=R) hn c h0
 obtain ⟨o,c2,hc2,e2⟩:=once_draw (R:=R) 2 (by decide) (by decide) c1 hc1.1
 have b2:=hc1.tr hc2
 cases o with
 | true =>
  obtain ⟨d,c3,hd,hc3,e3⟩:=device_draw (R:=R) hn c2 hc2.1
  refine ⟨(flush ⟨m,d⟩).Mem,(flushN_sz hn 400 ⟨m,d⟩ hm.sz hd.len).1,fun k=> ?_⟩
  simp only [s_DrawSettled]
  rw [e0,e1,hc1.mk',e2,bif_t,b2.mk',e3,Flush_eq' hn ⟨m,d⟩ hm.sz hd.len]
 | false =>
  refine ⟨m,hm.sz,fun k=> ?_⟩
  simp only [s_DrawSettled]
  rw [e0,e1,hc1.mk',e2,bif_f]
theorem law_FnSettled {n:Nat} (hn:FUEL<=n) (code:List UInt8) (k:Bool->Option R):w_FnSettled n code k=k true:=by
 simp only [w_FnSettled,w_big]
 by_cases hb:(1048576:Int)<(code.length:Int)
 ·rw [decide_eq_true hb,bif_t]
 ·rw [decide_eq_false hb,bif_f]
  have hc:code.length<=LEN:=by show code.length<=2097152; omega
  obtain ⟨m,hm,e1⟩:=drawSettled (R:=R) hn code hc
  obtain ⟨d,hd,e2⟩:=drawDisk (R:=R) hn code hc
  rw [e1,settled_loop hn _ hm.dy,e2,MemNew_eq hn d hd.t.sz,i_Settled_eq hn m hm.dy,i_Settled_eq hn (memNew d) (by show (List.replicate 21 false).length<=LEN; decide)]
  have hs:settled (memNew d)=true:=by simp [settled,memNew]
  rw [hs]
  simp only [settled]
  rw [show (0:Int)=((0:Nat):Int) from rfl,int_beq]
  generalize (m.Dirty.any fun x=>true==x)=a
  generalize (m.Deps.length==0)=b
  cases a<;>cases b<;>rfl
end Go.Soft
namespace Go.Soft
open Go Go.ChangeShapes Go.WideShapes
theorem rowAt_off {P:Program} {fits:TypeId->Bool}:∀ {d:Nat} {e:TypeId} {count off n:Nat},rowAt P fits d e count off n=true->off<=count*P.cellsOf e
 | 0,_,_,_,_,h=>by simp [rowAt] at h
 | d+1,e,count,off,n,h=>by
  simp only [rowAt] at h
  by_cases hs:P.cellsOf e=0
  ·simp [hs] at h
  ·rw [if_neg hs] at h
   have hdm:=Nat.div_add_mod off (P.cellsOf e)
   have hml:=Nat.mod_lt off (Nat.pos_of_ne_zero hs)
   simp only [Bool.or_eq_true,Bool.and_eq_true,beq_iff_eq,decide_eq_true_eq] at h
   rcases h with ⟨⟨h1,h2⟩,_⟩ | ⟨h1,_⟩
   ·have:off/P.cellsOf e<=count:=by omega
    have:=Nat.mul_le_mul_right (P.cellsOf e) this
    rw [Nat.mul_comm] at hdm; omega
   ·have:=Nat.mul_le_mul_right (P.cellsOf e) (show off/P.cellsOf e+1<=count from h1)
    rw [Nat.add_mul] at this
    rw [Nat.mul_comm] at hdm; omega
theorem liesAt_off {P:Program}:∀ {d:Nat} {e:TypeId} {count off:Nat} {u:TypeId} {n:Nat},liesAt P d e count off u n=true->off<=count*P.cellsOf e
 | 0,_,_,_,_,_,h=>by simp [liesAt] at h
 | d+1,e,count,off,u,n,h=>by
  simp only [liesAt,Bool.or_eq_true] at h
  rcases h with h | h
  ·exact rowAt_off h
  ·revert h; split
   ·exact liesAt_off
   ·intro h; cases h
theorem has_block {P:Program} {W:Go.World} {r:Reach} {base:Nat} {a:Addr} {e:TypeId} {n:Nat} (h:W.has P r base a e n):a.spot=none/\∃ cur el fz,W.heap[a.block]? =some (.cells cur el fz)/\a.off<=cur.size:=by
 obtain ⟨_,hs,row,cells,hsh,hl⟩:=h
 refine ⟨hs,?_⟩
 simp only [Go.World.shape?] at hsh
 cases hb:W.heap[a.block]? with
 | none=>rw [hb] at hsh; cases hsh
 | some o =>
  rw [hb] at hsh
  cases o with
  | cells c el fz =>
   simp only [Option.some.injEq,Prod.mk.injEq] at hsh
   obtain ⟨rfl,rfl⟩:=hsh
   refine ⟨c,el,fz,rfl,?_⟩
   have:=liesAt_off hl
   have h2:=Nat.div_mul_le_self c.size (P.cellsOf el)
   omega
  | _=>cases hsh
theorem cells1 {W:Go.World} {a:Addr} {l:List Value} (h:W.cells? 0 a 1=some l):∃ x0,l=[x0]/\W.cell? (a.add 0)=some x0:=by
 simp only [Go.World.cells?,Nat.zero_le,if_true] at h
 have e4:List.range 1=[0]:=rfl
 rw [e4] at h
 simp only [List.mapM_cons,List.mapM_nil,Option.bind_eq_bind,Option.bind_eq_some_iff,Option.pure_def,Option.some.injEq] at h
 obtain ⟨x0,h0,r0,rfl,rfl⟩:=h
 exact ⟨x0,rfl,h0⟩
section
variable {H:Type} {enc:TypeId×Value->H} {P:Program} {W:Go.World}
theorem open_bytes {t e:TypeId} (ht:P.underlying t=some (.slice e)) (he:P.underlying e=some (.int .u8)) (hc:P.cellsOf e=1)
  {base:Nat} {v:Value} {d:DataW H} {ps:List MemPlace} (hval:Value.okWide P W .any base t v) (h:DataW.Trod enc P W 0 (fun _=>true) true t v d ps) :
  ∃ (xs:List UInt8) (cs:List Value),Vis (fun _=>True) W .byte xs v cs:=by
 classical
 obtain ⟨a0,len,cap,rfl⟩:=okWide_slice ht hval
 obtain ⟨fuel,hf⟩:=h
 rcases DataW.trod_slice ht hf with ⟨hcs,_⟩ | ⟨a,len',cap',elems,rest,n,_,hcs,_,_,hl,hm,hlen,hel,_,_⟩
 ·simp [Value.cells] at hcs
  obtain ⟨rfl,rfl,rfl⟩:=hcs
  exact ⟨[],[],⟨⟨rfl,.inl ⟨rfl,rfl⟩⟩,fun e c ct he=>by simp at he⟩⟩
 ·simp [Value.cells] at hcs
  obtain ⟨rfl,rfl,rfl⟩:=hcs
  have hhas:W.has P .any base a e cap:=by
   simp only [Value.okWide,ht,Cell.okWide,Cell.ok] at hval
   exact hval.2.2
  obtain ⟨hspot,cur,el,fz,hb,hoff⟩:=has_block hhas
  obtain ⟨g,off,spot⟩:=a
  simp only at hspot hb hoff; subst hspot
  have node:∀ i,i<len->∃ x:UInt8,cur[off+i]? =some (.int .u8 (x.toNat:Int)):=by
   intro i hi
   have:=hel i hi
   rw [hc,List.getElem?_eq_getElem (by omega),Option.bind_eq_some_iff] at this
   obtain ⟨l,hl',hy⟩:=this
   obtain ⟨x0,rfl,c0⟩:=cells1 hl'
   obtain ⟨z,hz,_,hw⟩:=DataW.trod_int he hy
   simp only [List.cons.injEq,and_true] at hz
   subst hz
   have hr:0<=z/\z<=255:=by
    simp only [Lit.wf,Bool.and_eq_true,decide_eq_true_eq] at hw
    exact ⟨hw.1,hw.2⟩
   refine ⟨UInt8.ofNat z.toNat,?_⟩
   have hcell:W.cell? (Addr.add (Addr.add ⟨g,off,none⟩ (i*1)) 0)=cur[off+i]? :=by
    rw [Addr_add,Addr_add]
    simp only [Go.World.cell?,hb]
    rw [Nat.mul_one]; rfl
   rw [hcell] at c0
   rw [c0]
   have:((UInt8.ofNat z.toNat).toNat:Int)=z:=by
    rw [UInt8.toNat_ofNat']; omega
   rw [this]
  let f:Nat->UInt8:=fun i=>if hi:i<len then Classical.choose (node i hi) else 0
  have hfs:∀ i,i<len->cur[off+i]? =some (.int .u8 ((f i).toNat:Int)):=by
   intro i hi
   have e:f i=Classical.choose (node i hi):=by show (if hi:i<len then Classical.choose (node i hi) else 0)=_; rw [dif_pos hi]
   rw [e]; exact Classical.choose_spec (node i hi)
  let xs:=(List.range len).map f
  have hxl:xs.length=len:=by simp [xs]
  have hsz:off+len*1<=cur.size:=by
   by_cases hl0:len=0
   ·subst hl0; omega
   ·have:=hfs (len-1) (by omega)
    have:=(Array.getElem?_eq_some_iff.1 this).1
    omega
  refine ⟨xs,(cur.toList.drop off).take (len*1),⟨⟨?_,.inr ⟨g,off,cap,cur,el,fz,by rw [hxl],hb,trivial,by rw [hxl]; exact hl,by rw [hxl]; exact hsz,by rw [hxl]; rfl⟩⟩,fun i c ct hi hct=> ?_⟩⟩
  ·rw [List.length_take,List.length_drop,hxl]; simp only [sz,Array.length_toList]; omega
  ·rw [hxl] at hi
   have hget:xs.getD i (dflt .byte)=f i:=by simp [xs,hi]
   rw [hget] at hct
   have d0:=hfs i hi
   have hcur:((cur.toList.drop off).take (len*1))[i*1]? =cur[off+i]? :=by
    rw [List.getElem?_take,if_pos (by omega),List.getElem?_drop]; simp
   simp only [cells] at hct
   have hc1:c<1:=by have:=(List.getElem?_eq_some_iff.1 hct).1; simpa using this
   match c,hc1,hct with
   | 0,_,hct =>
    simp at hct; subst hct
    exact ⟨_,hcur.trans d0,rfl⟩
end
end Go.Soft
