/- Attributes that can be read. -/
import Derived.Test.YtajnpmhgldfgfaaOw
import Derived.Test.YtajnpmhgldfgfaaMem
namespace Go.Proofs.Ytajnpmhgldfgfaa
open Go.RowKit
set_option linter.unusedVariables false

/-- A slice of attributes that can be read: names, values, places. -/
def AttrRd (W : World) (v : Value) (l : List (ByteArray × ByteArray × Int)) : Prop :=
  ∃ a c, v = .slice a l.length c ∧ (l ≠ [] → ∃ b o, a = some ⟨b, o, none⟩ ∧ b < W.heap.size ∧ ∀ i x, l[i]? = some x → W.cell? ⟨b, o + i * 3, none⟩ = some (.string x.1) ∧ W.cell? ⟨b, o + i * 3 + 1, none⟩ = some (.string x.2.1) ∧ W.cell? ⟨b, o + i * 3 + 2, none⟩ = some (.int .i64 x.2.2))
theorem AttrRd.below {W W' : World} {v : Value} {l : List (ByteArray × ByteArray × Int)} (h : AttrRd W v l) (hB : Below W.heap.size W W') : AttrRd W' v l := by
  obtain ⟨a, c, h1, h2⟩ := h
  refine ⟨a, c, h1, fun hne => ?_⟩
  obtain ⟨b, o, g1, g2, g3⟩ := h2 hne
  exact ⟨b, o, g1, Nat.lt_of_lt_of_le g2 hB.size, fun i x hx => ⟨(hB.cell (p := ⟨b, o + i * 3, none⟩) g2).trans (g3 i x hx).1, (hB.cell (p := ⟨b, o + i * 3 + 1, none⟩) g2).trans (g3 i x hx).2.1, (hB.cell (p := ⟨b, o + i * 3 + 2, none⟩) g2).trans (g3 i x hx).2.2⟩⟩
theorem belowM (B : Nat) (w : World) (q : Nat) : Below B w (w.drewN q) := ⟨rfl, rfl, rfl, Nat.le_refl _, fun _ _ => rfl⟩
theorem bytes_ne {x y : ByteArray} (h : x ≠ y) : (x.toList == y.toList) = false := by
  refine beq_eq_false_iff_ne.2 fun e => h ?_
  rw [ByteArray.toList_eq, ByteArray.toList_eq] at e
  exact ByteArray.ext (Array.toList_inj.1 e)
end Go.Proofs.Ytajnpmhgldfgfaa
