/- rat's Parse, whole. -/
import Derived.Test.YtjcpfmndkeiegaaGreatDoorRtJ
namespace Go.Proofs.YtjcpfmndkeiegaaGreatDoor
open Go.RowKit
set_option linter.unusedVariables false

theorem ratParse_any (s : ByteArray) (hs : s.size ≤ 100000) (w : World) :
    Calls Tryz.prog 19 #[.string s] w fun e w' => ∃ v, e = .returned (.tuple #[v, .int .i64 ((parseRC s.data.toList : Nat) : Int)]) ∧ RatAt w' v (parseRQ s.data.toList) ∧ Below w.heap.size w w' := by
  obtain ⟨l, hl⟩ : ∃ l, s.data.toList = l := ⟨_, rfl⟩
  have key : ∀ c : Nat, parseRC l = c → c ≠ 0 → (Calls Tryz.prog 19 #[.string s] w fun e w' => ∃ v, e = .returned (.tuple #[v, .int .i64 (c : Int)]) ∧ RatAt w' v 0 ∧ Below w.heap.size w w') →
      Calls Tryz.prog 19 #[.string s] w fun e w' => ∃ v, e = .returned (.tuple #[v, .int .i64 ((parseRC l : Nat) : Int)]) ∧ RatAt w' v (parseRQ l) ∧ Below w.heap.size w w' := fun c hc h0 h => by
    have hq : parseRQ l = 0 := by unfold parseRQ; rw [if_neg (by rw [hc]; exact h0)]
    rw [hc, hq]
    exact h
  rw [hl]
  rcases parseC_cases (numL l) with h1 | h1 | h1
  · rcases parseC_cases (denL l) with h2 | h2 | h2
    · by_cases hd : parseV (denL l) = 0
      · refine key 3 (by unfold parseRC; rw [h1, h2, hd]; simp) (by decide) ?_
        exact rp_nought s hs w hd (by rw [hl, h1]; rfl) (by rw [hl, h2]; rfl) (by rw [hl]) (by rw [hl])
      · by_cases hq : textQ (valQ l) = l
        · have hc : parseRC l = 0 := by unfold parseRC; rw [h1, h2]; simp [hd, hq]
          have hv : parseRQ l = valQ l := by unfold parseRQ; rw [if_pos hc]
          rw [hc, hv]
          have h := rp_same s hs w (nv := parseV (numL l)) (dv := parseV (denL l)) hd (by rw [hl]; exact hq) (by rw [hl, h1]; rfl) (by rw [hl, h2]; rfl) (by rw [hl]) (by rw [hl])
          rw [hl] at h
          exact h
        · refine key 3 (by unfold parseRC; rw [h1, h2]; simp [hq]) (by decide) ?_
          exact rp_other s hs w hd (by rw [hl]; exact hq) (by rw [hl, h1]; rfl) (by rw [hl, h2]; rfl) (by rw [hl]) (by rw [hl])
    · refine key 2 (by unfold parseRC; rw [h1, h2]; simp) (by decide) ?_
      exact rp_limB s hs w rfl rfl (by rw [hl, h1]; rfl) (by rw [hl, h2]; rfl) rfl rfl
    · refine key 3 (by unfold parseRC; rw [h1, h2]; simp) (by decide) ?_
      exact rp_formB s hs w (z1 := 0) rfl (by decide) (by rw [hl, h1]; rfl) (by rw [hl, h2]; rfl) rfl rfl
  · rcases parseC_cases (denL l) with h2 | h2 | h2
    · refine key 2 (by unfold parseRC; rw [h1, h2]; simp) (by decide) ?_
      exact rp_limA s hs w (z2 := 0) rfl (by decide) (by rw [hl, h1]; rfl) (by rw [hl, h2]; rfl) rfl rfl
    · refine key 2 (by unfold parseRC; rw [h1, h2]; simp) (by decide) ?_
      exact rp_limA s hs w (z2 := 2) rfl (by decide) (by rw [hl, h1]; rfl) (by rw [hl, h2]; rfl) rfl rfl
    · refine key 3 (by unfold parseRC; rw [h1, h2]; simp) (by decide) ?_
      exact rp_formB s hs w (z1 := 2) rfl (by decide) (by rw [hl, h1]; rfl) (by rw [hl, h2]; rfl) rfl rfl
  · refine key 3 (by unfold parseRC; rw [h1]; simp) (by decide) ?_
    exact rp_formA s hs w rfl (by rw [hl, h1]; rfl) rfl rfl rfl
/-- What is read is not great. -/
theorem parseRQ_sz (l : List UInt8) : szN (numQ (parseRQ l)) ≤ 1200 ∧ szN (parseRQ l).den ≤ 1200 := by
  unfold parseRQ
  by_cases h : parseRC l = 0
  · rw [if_pos h]
    unfold valQ
    by_cases hd : parseV (denL l) = 0
    · exfalso
      unfold parseRC at h
      split at h
      · cases h
      · split at h
        · cases h
        · rw [if_pos (.inl hd)] at h; cases h
    · by_cases hn : parseV (numL l) = 0
      · rw [hn, lowQ_zero]
        exact ⟨by rw [num_zero, szN_zero]; omega, Nat.le_trans szN_one (by decide)⟩
      · obtain ⟨z1, -, -, z4⟩ := lowQ_parts (neg := negL l) hn hd
        rw [z1, z4]
        exact ⟨Nat.le_trans (szN_mono (Nat.div_le_self _ _)) (parseV_sz _), Nat.le_trans (szN_mono (Nat.div_le_self _ _)) (parseV_sz _)⟩
  · rw [if_neg h]
    exact ⟨by rw [num_zero, szN_zero]; omega, Nat.le_trans szN_one (by decide)⟩
end Go.Proofs.YtjcpfmndkeiegaaGreatDoor
