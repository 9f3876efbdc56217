/- A block that turned lies above. -/
import Derived.Test.YtajnpmhgldfgfaaOw
namespace Go.Proofs.Ytajnpmhgldfgfaa
open Go.RowKit
set_option linter.unusedVariables false

theorem grown_below {base r : Nat} {W Y : World} (h : W.grownBy Y (some r)) (hr : base ≤ r) (hb : base ≤ W.heap.size) : Below base W Y :=
  ⟨h.os, h.tape, h.output, h.size, fun k hk => h.block k (by omega) (fun e => by have := Option.some.inj e; omega)⟩
end Go.Proofs.Ytajnpmhgldfgfaa
