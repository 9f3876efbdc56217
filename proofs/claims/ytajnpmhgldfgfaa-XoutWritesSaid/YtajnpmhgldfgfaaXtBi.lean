/- Rows of ints. -/
import Derived.Test.YtajnpmhgldfgfaaOw
import Derived.Laws.OwnMore
import Derived.WalkSmall
namespace Go.Proofs.Ytajnpmhgldfgfaa
open Go.RowKit
set_option linter.unusedVariables false

def intCells (l : List Nat) : List Value := l.map fun (k : Nat) => .int .i64 k
/-- A row of ints. -/
def IntsAt (base : Nat) (w : World) (l : List Nat) (v : Value) : Prop := w.ownsRow base 3 1 v l.length (intCells l)
theorem own_below {n0 size n : Nat} {e : TypeId} {v : Value} {xs : List Value} {W W' : World} (h : W.ownsRow n0 e size v n xs) (hB : Below W.heap.size W W') : W'.ownsRow n0 e size v n xs :=
  own_keep h fun g hg => hB.block g (own_lt h hg)
/-- A row of the same type that turns elsewhere. -/
theorem own_grown {n0 n0' size size' n n' : Nat} {e : TypeId} {v v' : Value} {xs xs' : List Value} {W W' : World} (h : W.ownsRow n0 e size v n xs) (hg : W.grownBy W' v'.ownBlock) (hne : ∀ g, v.ownBlock = some g → v'.ownBlock ≠ some g) : W'.ownsRow n0 e size v n xs :=
  own_keep h fun g hg1 => hg.block g (own_lt h hg1) (fun e => hne g hg1 e.symm)
end Go.Proofs.Ytajnpmhgldfgfaa
