/- A run of the cutter, step by step; no program in sight. -/
import Derived.Test.YtajnpmhgldfgfaaXkAL
namespace Go.Proofs.Ytajnpmhgldfgfaa
open Go.RowKit
set_option linter.unusedVariables false

/-- An element's begin that is a name alone, behind which nothing stands that may. -/
def BareX (s : List UInt8) (ca : Nat) : Prop :=
  nameX (s.drop (ca + 1)) ≠ 0 ∧ blanksX (s.drop (ca + 1 + nameX (s.drop (ca + 1)))) = 0 ∧ Lib.hasPrefix (s.drop (ca + 1 + nameX (s.drop (ca + 1)))) [62] = false ∧ Lib.hasPrefix (s.drop (ca + 1 + nameX (s.drop (ca + 1)))) [47, 62] = false
/-- What a begin may be that these walks serve. -/
def OpenFit (f : Nat) (s : List UInt8) (ca : Nat) : Prop :=
  (∃ t e, openX f s ca = .ok (t, e) ∧ t.attrs.length ≤ 1) ∨ nameX (s.drop (ca + 1)) = 0 ∨ BareX s ca
def NextFit (f : Nat) (s : List UInt8) (c : XS) : Prop := s[c.place]? = some 60 → Lib.hasPrefix (s.drop c.place) [60, 47] = false → OpenFit f s c.place
inductive CutRun (f : Nat) (s : List UInt8) : XS → XR (List XT) → Prop where
  | done (c : XS) : s.length ≤ c.place → CutRun f s c (.ok (finX c).out)
  | step (c c' : XS) (r : XR (List XT)) : c.place < s.length → NextFit f s c → nextX f s c = .ok c' → c.place < c'.place → c'.place ≤ s.length → c'.out.length ≤ 1000 → c'.text.length ≤ 10000 → CutRun f s c' r → CutRun f s c r
  | bad (c : XS) (e : XE) : c.place < s.length → NextFit f s c → nextX f s c = .bad e → e.code ≠ 0 → CutRun f s c (.bad e)
theorem openX_bare {f : Nat} {s : List UInt8} {ca : Nat} (hb : BareX s ca) : openX (f + 1) s ca = .bad ⟨11, ca, wBegin⟩ := by
  obtain ⟨h0, h1, h2, h3⟩ := hb
  unfold openX
  simp only
  rw [if_neg h0, openGo]
  simp only [h1, Nat.add_zero, h2, h3, Bool.false_eq_true, if_false, if_true]
end Go.Proofs.Ytajnpmhgldfgfaa
