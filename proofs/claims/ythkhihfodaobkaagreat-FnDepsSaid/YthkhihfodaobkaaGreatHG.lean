import Derived.Test.YthkhihfodaobkaaGreatHF
import Derived.Test.YthkhihfodaobkaaGreatRows
set_option linter.constructorNameAsVariable false
set_option linter.unusedVariables false
set_option linter.unusedSimpArgs false
namespace Go.Soft
open Go Go.ChangeShapes Go.WideShapes
theorem M4 (W:Go.World) (v:Value) (xs:List UInt8) (cs:List Value) (hv:wx (fun _=>True) W .byte xs v cs) :
  Calls Go.Proofs.Tryz.prog 10 #[v] W fun e W'=>e= .returned (.bool true)/\Go.RowKit.Below W.heap.size W W':=by
 have Qi:=(k10 (R:=Unit) () bk).ok
 let γ:Gh:=⟨fun _=>none,fun _=>v,fun _=>cs,fun _=>0⟩
 have xS:TR X (d10 (R:=Unit) bk).g [.c (.l .byte xs)] [] γ W [v]:=by
  refine ⟨⟨fun k cs hk=>(by cases hk),fun k row hk=> ?_⟩,fun _ _=>rfl,.cons ⟨⟨⟨.byte,xs,1⟩,rfl⟩,rfl⟩ .nil⟩
  have hk:lk [(100000,(⟨.byte,xs,1⟩:Row))] k=some row:=hk
  simp only [lk] at hk
  cases hb:Nat.beq 100000 k with
  | false=>rw [hb] at hk; cases hk
  | true =>
   rw [hb] at hk; cases hk
   have:=aM hb; subst this
   refine ⟨hv.top.mono fun g o hg _=>⟨hg,.inl rfl⟩,fun e c ct he hc=> ?_⟩
   obtain ⟨u,hu,hr⟩:=hv.rU e c ct he hc
   refine ⟨u,hu,?_⟩
   cases ct with
   | u=>exact hr
   | l σ ys=>exact ⟨hr.1,hr.2.mono fun g o hg _=>⟨hg,.inl rfl⟩⟩
   | _=>exact hr
 have nE:∀ k:CR->Option Unit,vg (R:=Unit) (d10 (R:=Unit) bk).as (d10 (R:=Unit) bk).vs (d10 (R:=Unit) bk).G [.c (.l .byte xs)] [] k=k ⟨.c (.c (.b true)),[],[]⟩:=by
  intro k
  show xA bk xs (fun (r0:Bool)=>k ⟨.c (rB r0),[],[]⟩)=_
  rw [I7 (Nat.le_refl bk) xs]
  rfl
 refine (Qi.ok _ _ _ nE γ W [v] xS).mono ?_
 rintro e w' ⟨u,rfl,O,ka,kb,kc,EI,_,bV,_,_⟩
 obtain ⟨_,hu⟩:=bV
 refine ⟨by rw [hu]; rfl,EI.os,EI.tape,EI.output,EI.size,fun b hb=>(EI.pd b hb (.inl rfl)).2⟩
end Go.Soft
namespace Go.Proofs.YthkhihfodaobkaaGreat
open Go.ChangeShapes Go.WideShapes Go.ChangeAt Go.RowKit Go.Soft
theorem Tryz.own:ownKnob Tryz.prog.godebug=none:=by kernel_rfl
theorem Tryz.laidOut:laidOutB Tryz.prog=true:=by kernel_rfl
set_option maxRecDepth 100000 in
theorem lifted (os:Os) (started:os.Started) (H:Type) (enc:TypeId×Value->H) :
  ReturnsInHanded {} Tryz.checked os 10 .any (Rows.fnDepsSpec.pre6 enc Tryz.prog Tryz.f10 Rows.fnDepsRow.domain false) (Rows.fnDepsSpec.post enc Tryz.prog Tryz.f10 false true false false):=by
 refine returnsInHanded_of_change (C:=Tryz.checked) Tryz.own started (by kernel_rfl) Tryz.func10
  (ChangeSpec.witness6 (enc:=enc) (C:=Tryz.checked) false ⟨#[],#[.slice none 0 0],[]⟩ 8 (by kernel_rfl) (by kernel_rfl) (by kernel_rfl) (by kernel_rfl)) ?_
 intro W base args ds gs before Zy hW ahl _
 have xR:∀ (j:Nat) t v,Tryz.f10.params[j]? =some t->args[j]? =some v->Value.okWide Tryz.prog W .any base t v:=Zy
 have hW':=hW
 obtain ⟨p,q,hA0,hV,rfl,YL,Ii⟩:=hW
 have hA:DataW.TrodAll enc Tryz.prog W 0 (fun _=>true) true Tryz.f10.params.toList args.toList ds p:=hA0
 rw [Tryz.params10] at hA xR
 obtain ⟨v0,d0,rfl,rfl,h0⟩:=trodAll_one hA
 obtain ⟨rfl,rfl⟩:=trodVars_none hV
 obtain ⟨xs,cs,mF⟩:=JO Tryz.underlying22 Tryz.underlying5 (by kernel_rfl) (xR 0 22 v0 rfl rfl) h0
 simp only [List.append_nil] at hW'
 have fW:∀ x∈p,x.block<W.heap.size:=fun x hx=>by simpa using hW'.lt x hx
 refine (M4 W v0 xs cs mF).mono fun e W' ⟨he,hb⟩=> ?_
 subst he
 exact ⟨_,rfl,_,_,_,[],p,[],hW',trodAll_mk1 (shut_bool Tryz.underlying4 true),trodAll_mk1 (Below.trod Tryz.laidOut (by kernel_rfl) (of_decide_eq_true (by kernel_rfl)) h0 hb fW),rfl,hb.frame _,fun h=>by cases h⟩
set_option maxHeartbeats 40000000 in
theorem closed:joinedFacts Tryz.prog 10 Tryz.f10 Rows.fnDepsSpec Rows.fnDepsRow=true:=by
 simp only [joinedFacts,zB]
 repeat' apply And.intro
 all_goals (as_aux_lemma=>kernel_rfl)
theorem wrapped:Tryz.f10.isWrapper Tryz.prog Rows.fnDepsRow.wrapper Rows.fnDepsRow.mainSum:=by
 unfold Func.isWrapper
 first | (rw [if_pos (by decide +kernel)]; kernel_rfl) | (rw [if_neg (by decide +kernel)]; exact ⟨rfl,rfl⟩)
set_option maxHeartbeats 40000000 in
theorem deps_holds:Rows.FnDepsSaid :=
 OpenClaim.holds_of_wide 10 Tryz.f10 rfl rfl rfl rfl rfl rfl rfl ⟨rfl,rfl,rfl,rfl,rfl⟩ rfl rfl rfl rfl rfl (by as_aux_lemma=>kernel_rfl) Tryz.func10 closed
  (of_decide_eq_true (by as_aux_lemma=>kernel_rfl)) wrapped
  (fun os started H enc _=>lifted os started H enc)
end Go.Proofs.YthkhihfodaobkaaGreat
