/-
  SoftZJ: words of the printed functions.
-/
import Derived.Test.YtlcebcpciagogaaSoftZI
set_option linter.constructorNameAsVariable false
set_option linter.unusedVariables false
set_option linter.unusedSimpArgs false
namespace Go.Soft
open Go
def w64 (n : Int) : Int := IntKind.i64.wrap n
def sizeOk (a b : ByteArray) : Bool := decide (a.size + b.size ≤ 4611686018427387904)
def mkOk (a b : Int) : Bool := (a == b) && (decide (0 ≤ a) && Nat.ble a.toNat BIG)
def lenOk {α : Type} (l : List α) : Bool := Nat.ble l.length BIG
def loOk (l : Int) (n : Nat) : Bool := decide (0 ≤ l) && decide (l ≤ (n : Int))
def cutOk (l h : Int) (n : Nat) : Bool := decide (0 ≤ l) && (decide (l ≤ h) && decide (h ≤ (n : Int)))
def S (l : List UInt8) : ByteArray := ⟨⟨l⟩⟩
def eS : ByteArray := .empty
def mkS (l : List UInt8) : ByteArray := ⟨⟨l⟩⟩
def dSlot : Slot := dflt .slot
def dInode : Inode := dflt .inode
def dBlock : Block := dflt .block
def dDep : Dep := dflt .dep
def dNode : Node := dflt .node
def dEvent : Event := dflt .event
end Go.Soft
