/- The walk of xtok.Cut at a text that is none: not all of it are characters, or such that XML takes them. -/
import Derived.Test.YtmhhkekokfpppaaDoorXkZ
import Derived.Test.YtmhhkekokfpppaaDoorXkEw
namespace Go.Proofs.YtmhhkekokfpppaaDoor
open Go.RowKit
set_option linter.unusedVariables false

set_option maxRecDepth 100000 in
set_option maxHeartbeats 16000000 in
theorem cut_bad {s : ByteArray} {w : World} {er : XE} (hs : s.size ≤ 60000) (hc : charsX s.data.toList = some er) :
    Calls Tryd.prog 7 #[.string s] w fun e w' => e = .returned (.tuple #[.slice none 0 0, errV er]) ∧ Below w.heap.size w w' := by
  have HC := Lib.hid hc
  have hez : ((er.code : Int) == 0) = false := by
    have hcode : er.code = 11 := by
      unfold charsX at hc
      split at hc
      · simp only [Option.some.injEq] at hc; subst hc; rfl
      · split at hc
        · simp only [Option.some.injEq] at hc; subst hc; rfl
        · cases hc
    rw [hcode]; rfl
  clear hc
  go_enter Tryd.func7, Tryd.ntmps7
  go_wp2_with (first
    | (go_at_call 10; refine (chars_any s hs _).mono ?_; rintro e w1 ⟨he, hW1⟩; rw [HC.out] at he; obtain rfl := he; have HW1 := Lib.hid (show Below (w.heap.size + 1) (w.alloc dg0) w1 from hW1.mono (by simp)); have hz1 := hW1.size; simp only [World.size_alloc] at hz1)
    | (go_at_call 11; refine (fine_any er.code er.place ⟨er.what.toArray⟩ _).mono ?_; rintro en w2 ⟨rfl, hW2⟩; have HB6 := Lib.hid ((HW1.out.alloc (by omega) (.cells #[.int .i64 er.code, .int .i64 er.place, .string ⟨er.what.toArray⟩] 27)).trans (hW2.mono (by simp; omega))); have hd6 := ((BlkAt.new w1 27 #[.int .i64 er.code, .int .i64 er.place, .string ⟨er.what.toArray⟩]).below hW2 (by simp)); have hr6 : BlkAt w2 w.heap.size 27 #[.int .i64 0, .int .i64 0, .string ⟨#[]⟩] := (BlkAt.new w _ _).below HB6.out (by simp); obtain ⟨⟨r0, r1, r2⟩, g0, g1, g2⟩ := res_cells hr6; obtain ⟨⟨d0, d1, d2⟩, _, _, _⟩ := res_cells hd6))
  go_region
  all_goals
    have hT := three_sets (.int .i64 er.code) (.int .i64 er.place) (.string ⟨er.what.toArray⟩) hr6.drew
    go_wp2
    refine bodyPost_ret (results_tc rfl rfl aggDiag rfl hT.1) rfl ?_
    exact ⟨rfl, (((Below.refl _ w).alloc (Nat.le_refl _) dg0).trans (HB6.out.mono (by omega))).drew.trans (grown_below hT.2 (Nat.le_refl _) (by have := HB6.out.size; simp at this; exact Nat.le_of_lt this))⟩
end Go.Proofs.YtmhhkekokfpppaaDoor
