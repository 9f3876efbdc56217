/- Split off XtB. -/
import Derived.Test.YtajnpmhgldfgfaaXtBi
import Derived.Test.YtajnpmhgldfgfaaIt
namespace Go.Proofs.Ytajnpmhgldfgfaa
open Go.RowKit
set_option linter.unusedVariables false

/-- What is no cells stays. -/
def KeepN (W W' : World) : Prop := ∀ (k : Nat) (o : Obj), W.heap[k]? = some o → o.isCells = false → W'.heap[k]? = some o
theorem KeepN.of_below {W W' : World} (h : Below W.heap.size W W') : KeepN W W' := fun k o h1 _ => (h.block k (Array.getElem?_eq_some_iff.1 h1).1).trans h1
theorem KeepN.grown {n0 size n : Nat} {e : TypeId} {v : Value} {xs : List Value} {W W' : World} (ho : W.ownsRow n0 e size v n xs) (h : W.grownBy W' v.ownBlock) : KeepN W W' := fun k o h1 hc => by
  rw [h.block k (Array.getElem?_eq_some_iff.1 h1).1 (fun ek => ?_)]
  · exact h1
  · obtain ⟨c, hc2, _⟩ := own_at ho ek.symm
    rw [h1] at hc2
    cases hc2
    cases hc
theorem KeepN.blk {B : Nat} {t : TypeId} {cs : Array Value} {W W' : World} (hb : BlkAt W B t cs) (h : W.grownBy W' (some B)) : KeepN W W' := fun k o h1 hc => by
  rw [h.block k (Array.getElem?_eq_some_iff.1 h1).1 (fun ek => ?_)]
  · exact h1
  · obtain rfl : k = B := Option.some.inj ek
    rw [show W.heap[k]? = _ from hb] at h1
    cases h1
    cases hc
end Go.Proofs.Ytajnpmhgldfgfaa
