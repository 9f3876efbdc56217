/- A builder of one's own: small words. -/
import Derived.Test.YtajnpmhgldfgfaaXkH
namespace Go.Proofs.Ytajnpmhgldfgfaa
open Go.RowKit
set_option linter.unusedVariables false

theorem IsB.below {B b : Nat} {l : List UInt8} {W W' : World} (h : IsB B b l W) (hB : Below W.heap.size W W') : IsB B b l W' := by
  have key : ∀ p, Lib.BuilderAt 64 5 B b p (Lib.byteCells l) W → Lib.BuilderAt 64 5 B b p (Lib.byteCells l) W' := by
    intro p hp
    have hlt := hp.lt
    obtain ⟨h1, v, h2, h3, h4⟩ := hp
    exact ⟨h1, v, (hB.block b hlt).trans h2, own_keep h3 (fun g hg => hB.block g (own_lt h3 hg)), h4⟩
  rcases h with h | h
  · exact .inl (key _ h)
  · exact .inr (key _ h)
theorem IsB.lt {B b : Nat} {l : List UInt8} {W : World} (h : IsB B b l W) : b < W.heap.size := by
  rcases h with h | h <;> exact h.lt
abbrev bld0 : Obj := .cells #[.pointer none, .slice none 0 0] 64
theorem beq_no {a b : UInt8} (h : ¬ a = b) : ((a.toNat : Int) == (b.toNat : Int)) = false := beq_eq_false_iff_ne.2 (fun e => h (UInt8.toNat_inj.1 (by omega)))
theorem beq_yes {a b : UInt8} (h : a = b) : ((a.toNat : Int) == (b.toNat : Int)) = true := by rw [h]; exact beq_self_eq_true _
end Go.Proofs.Ytajnpmhgldfgfaa
