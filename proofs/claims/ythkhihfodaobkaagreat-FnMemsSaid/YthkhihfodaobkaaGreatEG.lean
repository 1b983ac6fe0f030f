import Derived.Test.YthkhihfodaobkaaGreatEF
import Derived.Test.YthkhihfodaobkaaGreatRows
set_option linter.constructorNameAsVariable false
set_option linter.unusedVariables false
set_option linter.unusedSimpArgs false
namespace Go.Soft
open Go Go.ChangeShapes Go.WideShapes
theorem Lg (W:Go.World) (v:Value) (xs:List UInt8) (cs:List Value) (hv:vO (fun _=>True) W .byte xs v cs) :
  Calls Go.Proofs.Tryz.prog 6 #[v] W fun e W'=>e= .returned (.bool true)/\Go.RowKit.Below W.heap.size W W':=by
 have Qn:=(k6 (R:=Unit) () bq).ok
 let γ:Gh:=⟨fun _=>none,fun _=>v,fun _=>cs,fun _=>0⟩
 have xl:Ti X (d6 (R:=Unit) bq).g [.c (.l .byte xs)] [] γ W [v]:=by
  refine ⟨⟨fun k cs hk=>(by cases hk),fun k row hk=> ?_⟩,fun _ _=>rfl,.cons ⟨⟨⟨.byte,xs,1⟩,rfl⟩,rfl⟩ .nil⟩
  have hk:lk [(100000,(⟨.byte,xs,1⟩:Row))] k=some row:=hk
  simp only [lk] at hk
  cases hb:Nat.beq 100000 k with
  | false=>rw [hb] at hk; cases hk
  | true =>
   rw [hb] at hk; cases hk
   have:=aF hb; subst this
   refine ⟨hv.top.mono fun g o hg _=>⟨hg,.inl rfl⟩,fun e c ct he hc=> ?_⟩
   obtain ⟨u,hu,hr⟩:=hv.rA e c ct he hc
   refine ⟨u,hu,?_⟩
   cases ct with
   | u=>exact hr
   | l σ ys=>exact ⟨hr.1,hr.2.mono fun g o hg _=>⟨hg,.inl rfl⟩⟩
   | _=>exact hr
 have ni:∀ k:CR->Option Unit,uD (R:=Unit) (d6 (R:=Unit) bq).as (d6 (R:=Unit) bq).vs (d6 (R:=Unit) bq).G [.c (.l .byte xs)] [] k=k ⟨.c (.c (.b true)),[],[]⟩:=by
  intro k
  show v8 bq xs (fun (r0:Bool)=>k ⟨.c (rB r0),[],[]⟩)=_
  rw [Ii (Nat.le_refl bq) xs]
  rfl
 refine (Qn.ok _ _ _ ni γ W [v] xl).mono ?_
 rintro e w' ⟨u,rfl,O,ka,kb,kc,D7,_,bR,_,_⟩
 obtain ⟨_,hu⟩:=bR
 refine ⟨by rw [hu]; rfl,D7.os,D7.tape,D7.output,D7.size,fun b hb=>(D7.oO b hb (.inl rfl)).2⟩
end Go.Soft
namespace Go.Proofs.YthkhihfodaobkaaGreat
open Go.ChangeShapes Go.WideShapes Go.ChangeAt Go.RowKit Go.Soft
theorem Tryz.own:ownKnob Tryz.prog.godebug=none:=by kernel_rfl
theorem Tryz.laidOut:laidOutB Tryz.prog=true:=by kernel_rfl
set_option maxRecDepth 100000 in
theorem lifted (os:Os) (started:os.Started) (H:Type) (enc:TypeId×Value->H) :
  ReturnsInHanded {} Tryz.checked os 6 .any (Rows.fnMemsSpec.pre6 enc Tryz.prog Tryz.f6 Rows.fnMemsRow.domain false) (Rows.fnMemsSpec.post enc Tryz.prog Tryz.f6 false true false false):=by
 refine returnsInHanded_of_change (C:=Tryz.checked) Tryz.own started (by kernel_rfl) Tryz.func6
  (ChangeSpec.witness6 (enc:=enc) (C:=Tryz.checked) false ⟨#[],#[.slice none 0 0],[]⟩ 8 (by kernel_rfl) (by kernel_rfl) (by kernel_rfl) (by kernel_rfl)) ?_
 intro W base args ds gs before YD hW afW _
 have xq:∀ (j:Nat) t v,Tryz.f6.params[j]? =some t->args[j]? =some v->Value.okWide Tryz.prog W .any base t v:=YD
 have hW':=hW
 obtain ⟨p,q,hA0,hV,rfl,XV,HN⟩:=hW
 have hA:DataW.TrodAll enc Tryz.prog W 0 (fun _=>true) true Tryz.f6.params.toList args.toList ds p:=hA0
 rw [Tryz.params6] at hA xq
 obtain ⟨v0,d0,rfl,rfl,h0⟩:=trodAll_one hA
 obtain ⟨rfl,rfl⟩:=trodVars_none hV
 obtain ⟨xs,cs,mq⟩:=Ig Tryz.underlying22 Tryz.underlying5 (by kernel_rfl) (xq 0 22 v0 rfl rfl) h0
 simp only [List.append_nil] at hW'
 have fP:∀ x∈p,x.block<W.heap.size:=fun x hx=>by simpa using hW'.lt x hx
 refine (Lg W v0 xs cs mq).mono fun e W' ⟨he,hb⟩=> ?_
 subst he
 exact ⟨_,rfl,_,_,_,[],p,[],hW',trodAll_mk1 (shut_bool Tryz.underlying4 true),trodAll_mk1 (Below.trod Tryz.laidOut (by kernel_rfl) (of_decide_eq_true (by kernel_rfl)) h0 hb fP),rfl,hb.frame _,fun h=>by cases h⟩
set_option maxHeartbeats 40000000 in
theorem closed:joinedFacts Tryz.prog 6 Tryz.f6 Rows.fnMemsSpec Rows.fnMemsRow=true:=by
 simp only [joinedFacts,zB]
 repeat' apply And.intro
 all_goals (as_aux_lemma=>kernel_rfl)
theorem wrapped:Tryz.f6.isWrapper Tryz.prog Rows.fnMemsRow.wrapper Rows.fnMemsRow.mainSum:=by
 unfold Func.isWrapper
 first | (rw [if_pos (by decide +kernel)]; kernel_rfl) | (rw [if_neg (by decide +kernel)]; exact ⟨rfl,rfl⟩)
set_option maxHeartbeats 40000000 in
theorem mems_holds:Rows.FnMemsSaid :=
 OpenClaim.holds_of_wide 6 Tryz.f6 rfl rfl rfl rfl rfl rfl rfl ⟨rfl,rfl,rfl,rfl,rfl⟩ rfl rfl rfl rfl rfl (by as_aux_lemma=>kernel_rfl) Tryz.func6 closed
  (of_decide_eq_true (by as_aux_lemma=>kernel_rfl)) wrapped
  (fun os started H enc _=>lifted os started H enc)
end Go.Proofs.YthkhihfodaobkaaGreat
