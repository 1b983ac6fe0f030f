/-
  Each Go function that laws.FnExactShowTree reaches comes to a typed Lean function (printed by program, each held by the kernel), whatever its arguments.
-/
import Derived.Test.YtlcebcpciagogaaSoftZJ
import Derived.Test.YtlcebcpciagogaaProg
import Derived.KernelRfl
set_option linter.constructorNameAsVariable false
set_option linter.unusedSimpArgs false
set_option maxRecDepth 100000
set_option linter.unusedVariables false
namespace Go.Soft
open Go Go.Proofs
def w_szNode {R : Type} (a : Node) (left : Int) (k0 : Int → Option R) : Option R :=
  bif (decide ((w64 (left - (a.Path.size : Int))) < 0)) then
   k0 (-1)
  else
  bif (decide ((w64 ((w64 (left - (a.Path.size : Int))) - (a.Head.size : Int))) < 0)) then
   k0 (-1)
  else
  bif (decide ((w64 ((w64 ((w64 (left - (a.Path.size : Int))) - (a.Head.size : Int))) - (a.Tail.size : Int))) < 0)) then
   k0 (-1)
  else
  k0 (w64 ((w64 ((w64 (left - (a.Path.size : Int))) - (a.Head.size : Int))) - (a.Tail.size : Int)))
def w_szNodeS_l5 {R : Type} (n : Nat) (q5_0 : Int → Option R) (q5_1 : Int → Option R) : Nat → Int → Int → (List Node) → Option R
  | 0, _, _, _ => none
  | m5 + 1, left, i, a =>
    bif (decide (i < (a.length : Int))) then
     chk (inR i a.length) <|
     let el := (a.getD i.toNat dNode)
     w_szNode el left fun (r : Int) =>
     bif (decide (r < 0)) then
      q5_0 (-1)
     else
     w_szNodeS_l5 n q5_0 q5_1 m5 r (w64 (i + 1)) a
    else
    q5_1 left
def w_szNodeS {R : Type} (n : Nat) (a : List Node) (left : Int) (k0 : Int → Option R) : Option R :=
  bif (decide ((w64 (left - (a.length : Int))) < 0)) then
   k0 (-1)
  else
  w_szNodeS_l5 n (fun (x : Int) =>
    k0 x) (fun (left_1 : Int) =>
    k0 left_1) n (w64 (left - (a.length : Int))) 0 a
def w_toNode {R : Type} (a : Node) (k0 : Node → Option R) : Option R :=
  k0 a
def w_toNodeS_l3 {R : Type} (n : Nat) (q3_0 : (List Node) → Option R) : Nat → Int → (List Node) → (List Node) → Option R
  | 0, _, _, _ => none
  | m3 + 1, i, a, out =>
    bif (decide (i < (a.length : Int))) then
     chk (inR i a.length) <|
     let el := (a.getD i.toNat dNode)
     w_toNode el fun (xn : Node) =>
     chk (inR i out.length) <|
     let row := (out.set i.toNat xn)
     w_toNodeS_l3 n q3_0 m3 (w64 (i + 1)) a row
    else
    q3_0 out
def w_toNodeS {R : Type} (n : Nat) (a : List Node) (k0 : (List Node) → Option R) : Option R :=
  chk (mkOk (a.length : Int) (a.length : Int)) <|
  w_toNodeS_l3 n (fun (out : List Node) =>
    k0 out) n 0 a (List.replicate ((a.length : Int).toNat) dNode)
def s_ShowTree_l3 {R : Type} (n : Nat) (q3_0 : ByteArray → Option R) : Nat → ByteArray → Int → (List Node) → Option R
  | 0, _, _, _ => none
  | m3 + 1, s, i, list =>
    bif (decide (i < (list.length : Int))) then
     chk (inR i list.length) <|
     bif (list.getD i.toNat dNode).Dir then
      chk (inR i list.length) <|
      chk (sizeOk s ((list.getD i.toNat dNode).Path)) <|
      chk (sizeOk (s ++ ((list.getD i.toNat dNode).Path)) (S [47, 10])) <|
      s_ShowTree_l3 n q3_0 m3 ((s ++ ((list.getD i.toNat dNode).Path)) ++ (S [47, 10])) (w64 (i + 1)) list
     else
     chk (inR i list.length) <|
     chk (sizeOk s ((list.getD i.toNat dNode).Path)) <|
     chk (sizeOk (s ++ ((list.getD i.toNat dNode).Path)) (S [32])) <|
     chk (inR i list.length) <|
     chk (sizeOk ((s ++ ((list.getD i.toNat dNode).Path)) ++ (S [32])) ((list.getD i.toNat dNode).Head)) <|
     chk (inR i list.length) <|
     chk (sizeOk (((s ++ ((list.getD i.toNat dNode).Path)) ++ (S [32])) ++ ((list.getD i.toNat dNode).Head)) ((list.getD i.toNat dNode).Tail)) <|
     chk (sizeOk ((((s ++ ((list.getD i.toNat dNode).Path)) ++ (S [32])) ++ ((list.getD i.toNat dNode).Head)) ++ ((list.getD i.toNat dNode).Tail)) (S [10])) <|
     s_ShowTree_l3 n q3_0 m3 (((((s ++ ((list.getD i.toNat dNode).Path)) ++ (S [32])) ++ ((list.getD i.toNat dNode).Head)) ++ ((list.getD i.toNat dNode).Tail)) ++ (S [10])) (w64 (i + 1)) list
    else
    q3_0 s
def s_ShowTree {R : Type} (n : Nat) (list : List Node) (k0 : ByteArray → Option R) : Option R :=
  s_ShowTree_l3 n (fun (s : ByteArray) =>
    k0 s) n eS 0 list
def i_ShowTree_l3 {R : Type} (n : Nat) (q3_0 : ByteArray → Option R) : Nat → ByteArray → Int → Int → (List Node) → Option R
  | 0, _, _, _, _ => none
  | m3 + 1, out, x, x_1, x_2 =>
    bif (decide (x_1 < x)) then
     chk (inR x_1 x_2.length) <|
     let el := (x_2.getD x_1.toNat dNode)
     bif el.Dir then
      chk (sizeOk el.Path (S [47, 10])) <|
      chk (sizeOk out (el.Path ++ (S [47, 10]))) <|
      i_ShowTree_l3 n q3_0 m3 (out ++ (el.Path ++ (S [47, 10]))) x (w64 (x_1 + 1)) x_2
     else
     chk (sizeOk el.Path (S [32])) <|
     chk (sizeOk (el.Path ++ (S [32])) el.Head) <|
     chk (sizeOk ((el.Path ++ (S [32])) ++ el.Head) el.Tail) <|
     chk (sizeOk (((el.Path ++ (S [32])) ++ el.Head) ++ el.Tail) (S [10])) <|
     chk (sizeOk out ((((el.Path ++ (S [32])) ++ el.Head) ++ el.Tail) ++ (S [10]))) <|
     i_ShowTree_l3 n q3_0 m3 (out ++ ((((el.Path ++ (S [32])) ++ el.Head) ++ el.Tail) ++ (S [10]))) x (w64 (x_1 + 1)) x_2
    else
    q3_0 out
def i_ShowTree {R : Type} (n : Nat) (list : List Node) (k0 : ByteArray → Option R) : Option R :=
  i_ShowTree_l3 n (fun (out : ByteArray) =>
    k0 out) n eS (list.length : Int) 0 list
def w_eqNode {R : Type} (a : Node) (b : Node) (k0 : Bool → Option R) : Option R :=
  bif (!(a.Path == b.Path)) then
   k0 false
  else
  bif !(a.Dir == b.Dir) then
   k0 false
  else
  bif (!(a.Head == b.Head)) then
   k0 false
  else
  bif (!(a.Tail == b.Tail)) then
   k0 false
  else
  k0 true
def w_eqNodeS_l4 {R : Type} (n : Nat) (q4_0 : Bool → Option R) (q4_1 : Option R) : Nat → Int → (List Node) → (List Node) → Option R
  | 0, _, _, _ => none
  | m4 + 1, i, a, b =>
    bif (decide (i < (a.length : Int))) then
     chk (inR i a.length) <|
     let el := (a.getD i.toNat dNode)
     chk (inR i b.length) <|
     let el_1 := (b.getD i.toNat dNode)
     w_eqNode el el_1 fun (r : Bool) =>
     bif !r then
      q4_0 false
     else
     w_eqNodeS_l4 n q4_0 q4_1 m4 (w64 (i + 1)) a b
    else
    q4_1
def w_eqNodeS {R : Type} (n : Nat) (a : List Node) (b : List Node) (k0 : Bool → Option R) : Option R :=
  bif (!((a.length : Int) == (b.length : Int))) then
   k0 false
  else
  w_eqNodeS_l4 n (fun (x : Bool) =>
    k0 x) (
    k0 true) n 0 a b
def w_FnExactShowTree {R : Type} (n : Nat) (aList : List Node) (k0 : Bool → Option R) : Option R :=
  w_szNodeS n aList 1048576 fun (r : Int) =>
  bif (decide (r < 0)) then
   k0 true
  else
  w_toNodeS n aList fun (r_1 : List Node) =>
  s_ShowTree n r_1 fun (r_2 : ByteArray) =>
  w_toNodeS n aList fun (r_3 : List Node) =>
  i_ShowTree n r_3 fun (r_4 : ByteArray) =>
  bif (!(r_4 == r_2)) then
   k0 false
  else
  w_toNodeS n aList fun (r_5 : List Node) =>
  w_eqNodeS n r_3 r_5 fun (r_6 : Bool) =>
  bif !r_6 then
   k0 false
  else
  k0 true
def I : Ty → TypeId | .int => 3 | .bool => 4 | .byte => 5 | .str => 9 | .node => 32 | _ => 999999
noncomputable def X : Ctx := ⟨Try.prog, [(3, .int), (4, .bool), (5, .byte), (9, .str), (31, .node), (32, .node)], I, [], 0⟩
theorem ctx_ok : CtxOk X := ctxOk_of (by kernel_rfl) (noEqs rfl) (by kernel_rfl)

theorem en_3 : Enters X.P 3 := enters Try.func3 (by kernel_rfl) (by kernel_rfl)
theorem en_4 : Enters X.P 4 := enters Try.func4 (by kernel_rfl) (by kernel_rfl)
theorem en_5 : Enters X.P 5 := enters Try.func5 (by kernel_rfl) (by kernel_rfl)
theorem en_6 : Enters X.P 6 := enters Try.func6 (by kernel_rfl) (by kernel_rfl)
theorem en_7 : Enters X.P 7 := enters Try.func7 (by kernel_rfl) (by kernel_rfl)
theorem en_8 : Enters X.P 8 := enters Try.func8 (by kernel_rfl) (by kernel_rfl)
theorem en_9 : Enters X.P 9 := enters Try.func9 (by kernel_rfl) (by kernel_rfl)
theorem en_10 : Enters X.P 10 := enters Try.func10 (by kernel_rfl) (by kernel_rfl)
theorem en_11 : Enters X.P 11 := enters Try.func11 (by kernel_rfl) (by kernel_rfl)
def sg_w_szNode : Sig := ⟨[], [], [[0]], .c (.c (.i .i64 0))⟩
def as_w_szNode : List ASh := [.a [some .s, some .b, some .s, some .s], .c (some (.i .i64))]
def vs_w_szNode : List (List (Option VT)) := []
def g_w_szNode {R : Type} (n : Nat) : AsT as_w_szNode → VsT vs_w_szNode → (CR → Option R) → Option R := fun ⟨⟨aPath_0, aDir_0, aHead_0, aTail_0, _⟩, ⟨left_0, _⟩, _⟩ _ k => w_szNode ⟨aPath_0, aDir_0, aHead_0, aTail_0⟩ left_0 (fun (r0 : Int) => k ⟨.c (.c (.i .i64 r0)), [], []⟩)
def e_w_szNode {R : Type} (n : Nat) : List (Nat × (Sig × FunR R)) := []
def an_w_szNode : Live := []
noncomputable def b_w_szNode : Code := Try.f9.body.getD .skip
def tb_w_szNode {R : Type} (n : Nat) : List (LF R) := []
theorem run_w_szNode {R : Type} (n : Nat) (a : AsT as_w_szNode) (v : VsT vs_w_szNode) (k : CR → Option R) : fnRun X (envOf (e_w_szNode n)) an_w_szNode (lpsOf (tb_w_szNode n) n) sg_w_szNode Try.f9 (encAs as_w_szNode a) (encVs vs_w_szNode v) k = g_w_szNode n a v k := by
  obtain ⟨⟨aPath_0, aDir_0, aHead_0, aTail_0, _⟩, ⟨left_0, _⟩, _⟩ := a
  kernel_rfl
theorem ok_w_szNode {R : Type} (r0 : R) (n : Nat) : FnOk X sg_w_szNode 9 (funOf (R := R) as_w_szNode vs_w_szNode (g_w_szNode n)) :=
  fun_ok r0 ctx_ok (env := e_w_szNode n) (by intro p hp; cases hp) (L := an_w_szNode) (tab := tb_w_szNode n) n Try.func9 (by kernel_rfl : Try.f9.body = some b_w_szNode) (by kernel_rfl) (by intro x hx; cases hx) (run_w_szNode n)
def sg_w_szNodeS : Sig := ⟨[], [], [[0]], .c (.c (.i .i64 0))⟩
def as_w_szNodeS : List ASh := [.c (some (.l .node)), .c (some (.i .i64))]
def vs_w_szNodeS : List (List (Option VT)) := []
def g_w_szNodeS {R : Type} (n : Nat) : AsT as_w_szNodeS → VsT vs_w_szNodeS → (CR → Option R) → Option R := fun ⟨⟨a_0, _⟩, ⟨left_0, _⟩, _⟩ _ k => w_szNodeS n a_0 left_0 (fun (r0 : Int) => k ⟨.c (.c (.i .i64 r0)), [], []⟩)
def e_w_szNodeS {R : Type} (n : Nat) : List (Nat × (Sig × FunR R)) := [(9, (sg_w_szNode, funOf as_w_szNode vs_w_szNode (g_w_szNode n)))]
def an_w_szNodeS : Live := [(5, ⟨[0, 1, 5], [], [⟨[(0, .c (.sw 500000)), (1, .c (.i .i64)), (5, .c (.i .i64))], [], [(500000, (.node, 1))]⟩], [(0, ([4], [])), (1, ([1], []))], []⟩)]
noncomputable def b_w_szNodeS : Code := Try.f4.body.getD .skip
def lf_w_szNodeS_5_0 {R : Type} (n : Nat) : LF R := ⟨5, 0, [.i .i64, .i .i64, .l .node], fun m h K => w_szNodeS_l5 n (fun (y0 : Int) => K .ret ⟨[(4, .c (.i .i64 y0))], [], []⟩) (fun (y0 : Int) => K (.exit 0) ⟨[(1, .c (.i .i64 y0))], [], []⟩) m h.1 h.2.1 h.2.2.1⟩
def tb_w_szNodeS {R : Type} (n : Nat) : List (LF R) := [lf_w_szNodeS_5_0 n]
noncomputable def c_w_szNodeS_5 : Code := (getLoop 5 b_w_szNodeS).getD .skip
theorem ok_lf_w_szNodeS_5_0 {R : Type} (n : Nat) : LFOk (X.at Try.f4) (envOf (R := R) (e_w_szNodeS n)) an_w_szNodeS b_w_szNodeS (tb_w_szNodeS n) (lf_w_szNodeS_5_0 n) := by
  refine ⟨fun h K => ?_, c_w_szNodeS_5, by kernel_rfl, fun m h K => ?_⟩
  · obtain ⟨h0, h1, h2, _⟩ := h; kernel_rfl
  · obtain ⟨h0, h1, h2, _⟩ := h; kernel_rfl
theorem run_w_szNodeS {R : Type} (n : Nat) (a : AsT as_w_szNodeS) (v : VsT vs_w_szNodeS) (k : CR → Option R) : fnRun X (envOf (e_w_szNodeS n)) an_w_szNodeS (lpsOf (tb_w_szNodeS n) n) sg_w_szNodeS Try.f4 (encAs as_w_szNodeS a) (encVs vs_w_szNodeS v) k = g_w_szNodeS n a v k := by
  obtain ⟨⟨a_0, _⟩, ⟨left_0, _⟩, _⟩ := a
  kernel_rfl
theorem ok_w_szNodeS {R : Type} (r0 : R) (n : Nat) : FnOk X sg_w_szNodeS 4 (funOf (R := R) as_w_szNodeS vs_w_szNodeS (g_w_szNodeS n)) :=
  fun_ok r0 ctx_ok (env := e_w_szNodeS n) (by intro p hp; simp only [e_w_szNodeS, List.mem_cons, List.not_mem_nil, or_false] at hp; rcases hp with rfl <;> first | exact ⟨ok_w_szNode r0 n, en_9⟩) (L := an_w_szNodeS) (tab := tb_w_szNodeS n) n Try.func4 (by kernel_rfl : Try.f4.body = some b_w_szNodeS) (by kernel_rfl) (by intro x hx; simp only [tb_w_szNodeS, List.mem_cons, List.not_mem_nil, or_false] at hx; rcases hx with rfl <;> first | exact ok_lf_w_szNodeS_5_0 n) (run_w_szNodeS n)
def sg_w_toNode : Sig := ⟨[], [], [[0, 0, 0, 0]], .a [.c (.s eS), .c (.b false), .c (.s eS), .c (.s eS)]⟩
def as_w_toNode : List ASh := [.a [some .s, some .b, some .s, some .s]]
def vs_w_toNode : List (List (Option VT)) := []
def g_w_toNode {R : Type} (n : Nat) : AsT as_w_toNode → VsT vs_w_toNode → (CR → Option R) → Option R := fun ⟨⟨aPath_0, aDir_0, aHead_0, aTail_0, _⟩, _⟩ _ k => w_toNode ⟨aPath_0, aDir_0, aHead_0, aTail_0⟩ (fun (r0 : Node) => k ⟨.a [.c (.s r0.Path), .c (.b r0.Dir), .c (.s r0.Head), .c (.s r0.Tail)], [], []⟩)
def e_w_toNode {R : Type} (n : Nat) : List (Nat × (Sig × FunR R)) := []
def an_w_toNode : Live := []
noncomputable def b_w_toNode : Code := Try.f10.body.getD .skip
def tb_w_toNode {R : Type} (n : Nat) : List (LF R) := []
theorem run_w_toNode {R : Type} (n : Nat) (a : AsT as_w_toNode) (v : VsT vs_w_toNode) (k : CR → Option R) : fnRun X (envOf (e_w_toNode n)) an_w_toNode (lpsOf (tb_w_toNode n) n) sg_w_toNode Try.f10 (encAs as_w_toNode a) (encVs vs_w_toNode v) k = g_w_toNode n a v k := by
  obtain ⟨⟨aPath_0, aDir_0, aHead_0, aTail_0, _⟩, _⟩ := a
  kernel_rfl
theorem ok_w_toNode {R : Type} (r0 : R) (n : Nat) : FnOk X sg_w_toNode 10 (funOf (R := R) as_w_toNode vs_w_toNode (g_w_toNode n)) :=
  fun_ok r0 ctx_ok (env := e_w_toNode n) (by intro p hp; cases hp) (L := an_w_toNode) (tab := tb_w_toNode n) n Try.func10 (by kernel_rfl : Try.f10.body = some b_w_toNode) (by kernel_rfl) (by intro x hx; cases hx) (run_w_toNode n)
def sg_w_toNodeS : Sig := ⟨[], [], [[5]], .c (.c (.l .node []))⟩
def as_w_toNodeS : List ASh := [.c (some (.l .node))]
def vs_w_toNodeS : List (List (Option VT)) := []
def g_w_toNodeS {R : Type} (n : Nat) : AsT as_w_toNodeS → VsT vs_w_toNodeS → (CR → Option R) → Option R := fun ⟨⟨a_0, _⟩, _⟩ _ k => w_toNodeS n a_0 (fun (r0 : List Node) => k ⟨.c (.c (.l .node r0)), [], []⟩)
def e_w_toNodeS {R : Type} (n : Nat) : List (Nat × (Sig × FunR R)) := [(10, (sg_w_toNode, funOf as_w_toNode vs_w_toNode (g_w_toNode n)))]
def an_w_toNodeS : Live := [(3, ⟨[0, 3, 4], [], [⟨[(0, .c (.sw 500000)), (3, .c (.sw 500001)), (4, .c (.i .i64))], [], [(500000, (.node, 1)), (500001, (.node, 5))]⟩], [(1, ([3], []))], []⟩)]
noncomputable def b_w_toNodeS : Code := Try.f6.body.getD .skip
def lf_w_toNodeS_3_0 {R : Type} (n : Nat) : LF R := ⟨3, 0, [.i .i64, .l .node, .l .node], fun m h K => w_toNodeS_l3 n (fun (y0 : List Node) => K (.exit 0) ⟨[(3, .c (.sw 500000))], [], [(500000, ⟨.node, y0, 5⟩)]⟩) m h.1 h.2.1 h.2.2.1⟩
def tb_w_toNodeS {R : Type} (n : Nat) : List (LF R) := [lf_w_toNodeS_3_0 n]
noncomputable def c_w_toNodeS_3 : Code := (getLoop 3 b_w_toNodeS).getD .skip
theorem ok_lf_w_toNodeS_3_0 {R : Type} (n : Nat) : LFOk (X.at Try.f6) (envOf (R := R) (e_w_toNodeS n)) an_w_toNodeS b_w_toNodeS (tb_w_toNodeS n) (lf_w_toNodeS_3_0 n) := by
  refine ⟨fun h K => ?_, c_w_toNodeS_3, by kernel_rfl, fun m h K => ?_⟩
  · obtain ⟨h0, h1, h2, _⟩ := h; kernel_rfl
  · obtain ⟨h0, h1, h2, _⟩ := h; kernel_rfl
theorem run_w_toNodeS {R : Type} (n : Nat) (a : AsT as_w_toNodeS) (v : VsT vs_w_toNodeS) (k : CR → Option R) : fnRun X (envOf (e_w_toNodeS n)) an_w_toNodeS (lpsOf (tb_w_toNodeS n) n) sg_w_toNodeS Try.f6 (encAs as_w_toNodeS a) (encVs vs_w_toNodeS v) k = g_w_toNodeS n a v k := by
  obtain ⟨⟨a_0, _⟩, _⟩ := a
  kernel_rfl
theorem ok_w_toNodeS {R : Type} (r0 : R) (n : Nat) : FnOk X sg_w_toNodeS 6 (funOf (R := R) as_w_toNodeS vs_w_toNodeS (g_w_toNodeS n)) :=
  fun_ok r0 ctx_ok (env := e_w_toNodeS n) (by intro p hp; simp only [e_w_toNodeS, List.mem_cons, List.not_mem_nil, or_false] at hp; rcases hp with rfl <;> first | exact ⟨ok_w_toNode r0 n, en_10⟩) (L := an_w_toNodeS) (tab := tb_w_toNodeS n) n Try.func6 (by kernel_rfl : Try.f6.body = some b_w_toNodeS) (by kernel_rfl) (by intro x hx; simp only [tb_w_toNodeS, List.mem_cons, List.not_mem_nil, or_false] at hx; rcases hx with rfl <;> first | exact ok_lf_w_toNodeS_3_0 n) (run_w_toNodeS n)
def sg_s_ShowTree : Sig := ⟨[], [], [[0]], .c (.c (.s eS))⟩
def as_s_ShowTree : List ASh := [.c (some (.l .node))]
def vs_s_ShowTree : List (List (Option VT)) := []
def g_s_ShowTree {R : Type} (n : Nat) : AsT as_s_ShowTree → VsT vs_s_ShowTree → (CR → Option R) → Option R := fun ⟨⟨list_0, _⟩, _⟩ _ k => s_ShowTree n list_0 (fun (r0 : ByteArray) => k ⟨.c (.c (.s r0)), [], []⟩)
def e_s_ShowTree {R : Type} (n : Nat) : List (Nat × (Sig × FunR R)) := []
def an_s_ShowTree : Live := [(3, ⟨[0, 3, 4], [], [⟨[(0, .c (.sw 500000)), (3, .c (.s)), (4, .c (.i .i64))], [], [(500000, (.node, 1))]⟩], [(1, ([3], []))], []⟩)]
noncomputable def b_s_ShowTree : Code := Try.f5.body.getD .skip
def lf_s_ShowTree_3_0 {R : Type} (n : Nat) : LF R := ⟨3, 0, [.s, .i .i64, .l .node], fun m h K => s_ShowTree_l3 n (fun (y0 : ByteArray) => K (.exit 0) ⟨[(3, .c (.s y0))], [], []⟩) m h.1 h.2.1 h.2.2.1⟩
def tb_s_ShowTree {R : Type} (n : Nat) : List (LF R) := [lf_s_ShowTree_3_0 n]
noncomputable def c_s_ShowTree_3 : Code := (getLoop 3 b_s_ShowTree).getD .skip
theorem ok_lf_s_ShowTree_3_0 {R : Type} (n : Nat) : LFOk (X.at Try.f5) (envOf (R := R) (e_s_ShowTree n)) an_s_ShowTree b_s_ShowTree (tb_s_ShowTree n) (lf_s_ShowTree_3_0 n) := by
  refine ⟨fun h K => ?_, c_s_ShowTree_3, by kernel_rfl, fun m h K => ?_⟩
  · obtain ⟨h0, h1, h2, _⟩ := h; kernel_rfl
  · obtain ⟨h0, h1, h2, _⟩ := h; kernel_rfl
theorem run_s_ShowTree {R : Type} (n : Nat) (a : AsT as_s_ShowTree) (v : VsT vs_s_ShowTree) (k : CR → Option R) : fnRun X (envOf (e_s_ShowTree n)) an_s_ShowTree (lpsOf (tb_s_ShowTree n) n) sg_s_ShowTree Try.f5 (encAs as_s_ShowTree a) (encVs vs_s_ShowTree v) k = g_s_ShowTree n a v k := by
  obtain ⟨⟨list_0, _⟩, _⟩ := a
  kernel_rfl
theorem ok_s_ShowTree {R : Type} (r0 : R) (n : Nat) : FnOk X sg_s_ShowTree 5 (funOf (R := R) as_s_ShowTree vs_s_ShowTree (g_s_ShowTree n)) :=
  fun_ok r0 ctx_ok (env := e_s_ShowTree n) (by intro p hp; cases hp) (L := an_s_ShowTree) (tab := tb_s_ShowTree n) n Try.func5 (by kernel_rfl : Try.f5.body = some b_s_ShowTree) (by kernel_rfl) (by intro x hx; simp only [tb_s_ShowTree, List.mem_cons, List.not_mem_nil, or_false] at hx; rcases hx with rfl <;> first | exact ok_lf_s_ShowTree_3_0 n) (run_s_ShowTree n)
def sg_i_ShowTree : Sig := ⟨[], [], [[0]], .c (.c (.s eS))⟩
def as_i_ShowTree : List ASh := [.c (some (.l .node))]
def vs_i_ShowTree : List (List (Option VT)) := []
def g_i_ShowTree {R : Type} (n : Nat) : AsT as_i_ShowTree → VsT vs_i_ShowTree → (CR → Option R) → Option R := fun ⟨⟨list_0, _⟩, _⟩ _ k => i_ShowTree n list_0 (fun (r0 : ByteArray) => k ⟨.c (.c (.s r0)), [], []⟩)
def e_i_ShowTree {R : Type} (n : Nat) : List (Nat × (Sig × FunR R)) := []
def an_i_ShowTree : Live := [(3, ⟨[3, 6, 7, 8], [], [⟨[(3, .c (.s)), (6, .c (.sw 500000)), (7, .c (.i .i64)), (8, .c (.i .i64))], [], [(500000, (.node, 1))]⟩], [(1, ([3], []))], []⟩)]
noncomputable def b_i_ShowTree : Code := Try.f7.body.getD .skip
def lf_i_ShowTree_3_0 {R : Type} (n : Nat) : LF R := ⟨3, 0, [.s, .i .i64, .i .i64, .l .node], fun m h K => i_ShowTree_l3 n (fun (y0 : ByteArray) => K (.exit 0) ⟨[(3, .c (.s y0))], [], []⟩) m h.1 h.2.1 h.2.2.1 h.2.2.2.1⟩
def tb_i_ShowTree {R : Type} (n : Nat) : List (LF R) := [lf_i_ShowTree_3_0 n]
noncomputable def c_i_ShowTree_3 : Code := (getLoop 3 b_i_ShowTree).getD .skip
theorem ok_lf_i_ShowTree_3_0 {R : Type} (n : Nat) : LFOk (X.at Try.f7) (envOf (R := R) (e_i_ShowTree n)) an_i_ShowTree b_i_ShowTree (tb_i_ShowTree n) (lf_i_ShowTree_3_0 n) := by
  refine ⟨fun h K => ?_, c_i_ShowTree_3, by kernel_rfl, fun m h K => ?_⟩
  · obtain ⟨h0, h1, h2, h3, _⟩ := h; kernel_rfl
  · obtain ⟨h0, h1, h2, h3, _⟩ := h; kernel_rfl
theorem run_i_ShowTree {R : Type} (n : Nat) (a : AsT as_i_ShowTree) (v : VsT vs_i_ShowTree) (k : CR → Option R) : fnRun X (envOf (e_i_ShowTree n)) an_i_ShowTree (lpsOf (tb_i_ShowTree n) n) sg_i_ShowTree Try.f7 (encAs as_i_ShowTree a) (encVs vs_i_ShowTree v) k = g_i_ShowTree n a v k := by
  obtain ⟨⟨list_0, _⟩, _⟩ := a
  kernel_rfl
theorem ok_i_ShowTree {R : Type} (r0 : R) (n : Nat) : FnOk X sg_i_ShowTree 7 (funOf (R := R) as_i_ShowTree vs_i_ShowTree (g_i_ShowTree n)) :=
  fun_ok r0 ctx_ok (env := e_i_ShowTree n) (by intro p hp; cases hp) (L := an_i_ShowTree) (tab := tb_i_ShowTree n) n Try.func7 (by kernel_rfl : Try.f7.body = some b_i_ShowTree) (by kernel_rfl) (by intro x hx; simp only [tb_i_ShowTree, List.mem_cons, List.not_mem_nil, or_false] at hx; rcases hx with rfl <;> first | exact ok_lf_i_ShowTree_3_0 n) (run_i_ShowTree n)
def sg_w_eqNode : Sig := ⟨[], [], [[0]], .c (.c (.b false))⟩
def as_w_eqNode : List ASh := [.a [some .s, some .b, some .s, some .s], .a [some .s, some .b, some .s, some .s]]
def vs_w_eqNode : List (List (Option VT)) := []
def g_w_eqNode {R : Type} (n : Nat) : AsT as_w_eqNode → VsT vs_w_eqNode → (CR → Option R) → Option R := fun ⟨⟨aPath_0, aDir_0, aHead_0, aTail_0, _⟩, ⟨bPath_0, bDir_0, bHead_0, bTail_0, _⟩, _⟩ _ k => w_eqNode ⟨aPath_0, aDir_0, aHead_0, aTail_0⟩ ⟨bPath_0, bDir_0, bHead_0, bTail_0⟩ (fun (r0 : Bool) => k ⟨.c (.c (.b r0)), [], []⟩)
def e_w_eqNode {R : Type} (n : Nat) : List (Nat × (Sig × FunR R)) := []
def an_w_eqNode : Live := []
noncomputable def b_w_eqNode : Code := Try.f11.body.getD .skip
def tb_w_eqNode {R : Type} (n : Nat) : List (LF R) := []
theorem run_w_eqNode {R : Type} (n : Nat) (a : AsT as_w_eqNode) (v : VsT vs_w_eqNode) (k : CR → Option R) : fnRun X (envOf (e_w_eqNode n)) an_w_eqNode (lpsOf (tb_w_eqNode n) n) sg_w_eqNode Try.f11 (encAs as_w_eqNode a) (encVs vs_w_eqNode v) k = g_w_eqNode n a v k := by
  obtain ⟨⟨aPath_0, aDir_0, aHead_0, aTail_0, _⟩, ⟨bPath_0, bDir_0, bHead_0, bTail_0, _⟩, _⟩ := a
  kernel_rfl
theorem ok_w_eqNode {R : Type} (r0 : R) (n : Nat) : FnOk X sg_w_eqNode 11 (funOf (R := R) as_w_eqNode vs_w_eqNode (g_w_eqNode n)) :=
  fun_ok r0 ctx_ok (env := e_w_eqNode n) (by intro p hp; cases hp) (L := an_w_eqNode) (tab := tb_w_eqNode n) n Try.func11 (by kernel_rfl : Try.f11.body = some b_w_eqNode) (by kernel_rfl) (by intro x hx; cases hx) (run_w_eqNode n)
def sg_w_eqNodeS : Sig := ⟨[], [], [[0]], .c (.c (.b false))⟩
def as_w_eqNodeS : List ASh := [.c (some (.l .node)), .c (some (.l .node))]
def vs_w_eqNodeS : List (List (Option VT)) := []
def g_w_eqNodeS {R : Type} (n : Nat) : AsT as_w_eqNodeS → VsT vs_w_eqNodeS → (CR → Option R) → Option R := fun ⟨⟨a_0, _⟩, ⟨b_0, _⟩, _⟩ _ k => w_eqNodeS n a_0 b_0 (fun (r0 : Bool) => k ⟨.c (.c (.b r0)), [], []⟩)
def e_w_eqNodeS {R : Type} (n : Nat) : List (Nat × (Sig × FunR R)) := [(11, (sg_w_eqNode, funOf as_w_eqNode vs_w_eqNode (g_w_eqNode n)))]
def an_w_eqNodeS : Live := [(4, ⟨[0, 1, 5], [], [⟨[(0, .c (.sw 500000)), (1, .c (.sw 500001)), (5, .c (.i .i64))], [], [(500000, (.node, 1)), (500001, (.node, 1))]⟩], [(0, ([4], [])), (1, ([], []))], []⟩)]
noncomputable def b_w_eqNodeS : Code := Try.f8.body.getD .skip
def lf_w_eqNodeS_4_0 {R : Type} (n : Nat) : LF R := ⟨4, 0, [.i .i64, .l .node, .l .node], fun m h K => w_eqNodeS_l4 n (fun (y0 : Bool) => K .ret ⟨[(4, .c (.b y0))], [], []⟩) (K (.exit 0) ⟨[], [], []⟩) m h.1 h.2.1 h.2.2.1⟩
def tb_w_eqNodeS {R : Type} (n : Nat) : List (LF R) := [lf_w_eqNodeS_4_0 n]
noncomputable def c_w_eqNodeS_4 : Code := (getLoop 4 b_w_eqNodeS).getD .skip
theorem ok_lf_w_eqNodeS_4_0 {R : Type} (n : Nat) : LFOk (X.at Try.f8) (envOf (R := R) (e_w_eqNodeS n)) an_w_eqNodeS b_w_eqNodeS (tb_w_eqNodeS n) (lf_w_eqNodeS_4_0 n) := by
  refine ⟨fun h K => ?_, c_w_eqNodeS_4, by kernel_rfl, fun m h K => ?_⟩
  · obtain ⟨h0, h1, h2, _⟩ := h; kernel_rfl
  · obtain ⟨h0, h1, h2, _⟩ := h; kernel_rfl
theorem run_w_eqNodeS {R : Type} (n : Nat) (a : AsT as_w_eqNodeS) (v : VsT vs_w_eqNodeS) (k : CR → Option R) : fnRun X (envOf (e_w_eqNodeS n)) an_w_eqNodeS (lpsOf (tb_w_eqNodeS n) n) sg_w_eqNodeS Try.f8 (encAs as_w_eqNodeS a) (encVs vs_w_eqNodeS v) k = g_w_eqNodeS n a v k := by
  obtain ⟨⟨a_0, _⟩, ⟨b_0, _⟩, _⟩ := a
  kernel_rfl
theorem ok_w_eqNodeS {R : Type} (r0 : R) (n : Nat) : FnOk X sg_w_eqNodeS 8 (funOf (R := R) as_w_eqNodeS vs_w_eqNodeS (g_w_eqNodeS n)) :=
  fun_ok r0 ctx_ok (env := e_w_eqNodeS n) (by intro p hp; simp only [e_w_eqNodeS, List.mem_cons, List.not_mem_nil, or_false] at hp; rcases hp with rfl <;> first | exact ⟨ok_w_eqNode r0 n, en_11⟩) (L := an_w_eqNodeS) (tab := tb_w_eqNodeS n) n Try.func8 (by kernel_rfl : Try.f8.body = some b_w_eqNodeS) (by kernel_rfl) (by intro x hx; simp only [tb_w_eqNodeS, List.mem_cons, List.not_mem_nil, or_false] at hx; rcases hx with rfl <;> first | exact ok_lf_w_eqNodeS_4_0 n) (run_w_eqNodeS n)
def sg_w_FnExactShowTree : Sig := ⟨[], [], [[0]], .c (.c (.b false))⟩
def as_w_FnExactShowTree : List ASh := [.c (some (.l .node))]
def vs_w_FnExactShowTree : List (List (Option VT)) := []
def g_w_FnExactShowTree {R : Type} (n : Nat) : AsT as_w_FnExactShowTree → VsT vs_w_FnExactShowTree → (CR → Option R) → Option R := fun ⟨⟨aList_0, _⟩, _⟩ _ k => w_FnExactShowTree n aList_0 (fun (r0 : Bool) => k ⟨.c (.c (.b r0)), [], []⟩)
def e_w_FnExactShowTree {R : Type} (n : Nat) : List (Nat × (Sig × FunR R)) := [(4, (sg_w_szNodeS, funOf as_w_szNodeS vs_w_szNodeS (g_w_szNodeS n))), (6, (sg_w_toNodeS, funOf as_w_toNodeS vs_w_toNodeS (g_w_toNodeS n))), (5, (sg_s_ShowTree, funOf as_s_ShowTree vs_s_ShowTree (g_s_ShowTree n))), (7, (sg_i_ShowTree, funOf as_i_ShowTree vs_i_ShowTree (g_i_ShowTree n))), (8, (sg_w_eqNodeS, funOf as_w_eqNodeS vs_w_eqNodeS (g_w_eqNodeS n)))]
def an_w_FnExactShowTree : Live := []
noncomputable def b_w_FnExactShowTree : Code := Try.f3.body.getD .skip
def tb_w_FnExactShowTree {R : Type} (n : Nat) : List (LF R) := []
theorem run_w_FnExactShowTree {R : Type} (n : Nat) (a : AsT as_w_FnExactShowTree) (v : VsT vs_w_FnExactShowTree) (k : CR → Option R) : fnRun X (envOf (e_w_FnExactShowTree n)) an_w_FnExactShowTree (lpsOf (tb_w_FnExactShowTree n) n) sg_w_FnExactShowTree Try.f3 (encAs as_w_FnExactShowTree a) (encVs vs_w_FnExactShowTree v) k = g_w_FnExactShowTree n a v k := by
  obtain ⟨⟨aList_0, _⟩, _⟩ := a
  kernel_rfl
theorem ok_w_FnExactShowTree {R : Type} (r0 : R) (n : Nat) : FnOk X sg_w_FnExactShowTree 3 (funOf (R := R) as_w_FnExactShowTree vs_w_FnExactShowTree (g_w_FnExactShowTree n)) :=
  fun_ok r0 ctx_ok (env := e_w_FnExactShowTree n) (by intro p hp; simp only [e_w_FnExactShowTree, List.mem_cons, List.not_mem_nil, or_false] at hp; rcases hp with rfl | rfl | rfl | rfl | rfl <;> first | exact ⟨ok_w_szNodeS r0 n, en_4⟩ | exact ⟨ok_w_toNodeS r0 n, en_6⟩ | exact ⟨ok_s_ShowTree r0 n, en_5⟩ | exact ⟨ok_i_ShowTree r0 n, en_7⟩ | exact ⟨ok_w_eqNodeS r0 n, en_8⟩) (L := an_w_FnExactShowTree) (tab := tb_w_FnExactShowTree n) n Try.func3 (by kernel_rfl : Try.f3.body = some b_w_FnExactShowTree) (by kernel_rfl) (by intro x hx; cases hx) (run_w_FnExactShowTree n)
end Go.Soft
