/- A text's builder: small words. -/
import Derived.Test.YtajnpmhgldfgfaaProg
import Derived.Test.YtajnpmhgldfgfaaMem
import Derived.Test.YtajnpmhgldfgfaaOw
import Derived.Lib.Builder
import Derived.Lib.AppendStr
import Derived.Lib.AppendIntMem
import Derived.Lib.UnsafeStr
import Derived.Laws.Externs
import Derived.RegionTactic
import Derived.BigRegion
import Derived.WalkKit
import Derived.ProofKit
import Derived.LoopTactic
import Derived.WalkSpells
import Derived.WalkLawsBesides
import Derived.Lib.Hide
import Derived.Outline
import Derived.Handy
namespace Go.Proofs.Ytajnpmhgldfgfaa
open Go.RowKit
set_option linter.unusedVariables false

/-- Only these two blocks turn. -/
def FrB (w w' : World) (cb : Nat) (v : Value) : Prop := ∀ k, k < w.heap.size → k ≠ cb → v.ownBlock ≠ some k → w'.heap[k]? = w.heap[k]?

theorem sizeBld : (Try.prog.info? 64).map (·.size) = some 2 := by kernel_rfl
theorem shape_blk {w : World} {g : Nat} {t : TypeId} {cs : Array Value} (h : BlkAt w g t cs) : w.shape? g = some (t, cs.size) := by
  simp [World.shape?, show w.heap[g]? = _ from h]
theorem grown_set (w : World) (b j : Nat) (u : Value) : w.grownBy (w.setCell ⟨b, j, none⟩ u) (some b) :=
  ⟨rfl, rfl, rfl, by rw [World.size_setCell]; exact Nat.le_refl _, fun k _ hne => Below.heap_setCell w ⟨b, j, none⟩ u k (fun e => hne (by rw [e]))⟩
theorem below_frz {B : Nat} {w : World} (p : Addr) (n : Nat) : ∀ k, k ≠ p.block → (w.freeze p n).heap[k]? = w.heap[k]? := by
  intro k hk
  unfold World.freeze
  split
  · rfl
  · simp [Array.getElem?_modify, Ne.symm hk]
end Go.Proofs.Ytajnpmhgldfgfaa
