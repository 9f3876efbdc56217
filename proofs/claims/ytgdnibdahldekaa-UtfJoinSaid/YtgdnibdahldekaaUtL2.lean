/- The walk of the law UtfJoin. -/
import Derived.Test.YtgdnibdahldekaaProg
import Derived.Test.YtgdnibdahldekaaUtI
import Derived.Test.YtgdnibdahldekaaUtL1
import Derived.Test.YtgdnibdahldekaaUtB
import Derived.Test.YtgdnibdahldekaaMem
import Derived.WalkKit
import Derived.ProofKit
import Derived.LoopTactic
import Derived.WalkSpells
import Derived.WalkLawsBesides
import Derived.Lib.Hide
import Derived.Outline
import Derived.Handy
namespace Go.Proofs.Ytgdnibdahldekaa
open Go.RowKit
set_option linter.unusedVariables false

set_option maxRecDepth 20000 in
set_option maxHeartbeats 800000 in
theorem utfJoin_walk (a b : ByteArray) (wa : a.size ≤ maxLen) (wb : b.size ≤ maxLen) (w : World) :
    Calls Try.prog 8 #[.string a, .string b] w fun e w' => e = .returned (.bool true) ∧ Below w.heap.size w w' := by
  unfold maxLen at wa wb
  by_cases hl : 1000 < a.size ∨ 1000 < b.size
  · by_cases ha : 1000 < a.size
    all_goals
      go_enter Try.func8, Try.ntmps8
      go_wp2_with (go_at_call 18; refine (alive6_any _).mono ?_; rintro e w1 ⟨rfl, hB⟩)
      go_ret
      exact ⟨rfl, hB⟩
  · have ha : a.size ≤ 1000 := by omega
    have hb : b.size ≤ 1000 := by omega
    have sA : a.data.toList.length = a.size := by simp
    have sB : b.data.toList.length = b.size := by simp
    have la := checkL_le _ a.data.toList (Nat.le_refl _)
    have lb := checkL_le _ b.data.toList (Nat.le_refl _)
    have ca := count_le a.data.toList
    have cb := count_le b.data.toList
    have hab : (a ++ b).data.toList = a.data.toList ++ b.data.toList := by simp
    have hsz : (a ++ b).size = a.size + b.size := ByteArray.size_append
    have KA := fun w => check_any a (by omega) w
    have KB := fun w => check_any b (by omega) w
    have KC := fun w => check_any (a ++ b) (by omega) w
    have NA := fun w => count_any a (by omega) w
    have NB := fun w => count_any b (by omega) w
    have NC := fun w => count_any (a ++ b) (by omega) w
    rw [sA] at la
    rw [sB] at lb
    clear hl wa wb
    by_cases hw : checkL a.data.toList = a.data.toList.length
    · have h1 := checkL_append _ b.data.toList hw
      have h2 := count_append _ b.data.toList hw
      have h3 : decide (checkL (a ++ b).data.toList = (a ++ b).size) = decide (checkL b.data.toList = b.size) := by
        rw [hab, h1, hsz, sA, Bool.eq_iff_iff]; simp
      rw [h3, hab, h1, sA] at KC
      rw [hab, h2] at NC
      rw [hw, sA] at KA ca
      simp only [decide_true] at KA
      clear h1 h2 h3 hw hab
      generalize (runesL a.data.toList).length = x at *
      generalize (runesL b.data.toList).length = y at *
      generalize checkL b.data.toList = m at *
      generalize decide (m = b.size) = z at *
      have HKA := Lib.hid KA
      have HKB := Lib.hid KB
      have HKC := Lib.hid KC
      have HNA := Lib.hid NA
      have HNB := Lib.hid NB
      have HNC := Lib.hid NC
      clear KA KB KC NA NB NC sA sB hsz
      go_enter Try.func8, Try.ntmps8
      go_wp2_with fail
      refine (alive6_any _).mono ?_
      rintro e w1 ⟨rfl, hB⟩
      go_wp2_with fail
      refine (HKA.out _).mono ?_
      rintro e w' ⟨rfl, rfl⟩
      go_wp2_with fail
      refine (HKB.out _).mono ?_
      rintro e w' ⟨rfl, rfl⟩
      go_wp2_with fail
      refine (HKC.out _).mono ?_
      rintro e w' ⟨rfl, rfl⟩
      go_wp2_with fail
      refine (HNC.out _).mono ?_
      rintro e w2 ⟨rfl, hB2⟩
      have hB3 := hB.trans (hB2.mono hB.size)
      clear hB2
      go_wp2_with fail
      refine (HNA.out _).mono ?_
      rintro e w3 ⟨rfl, hB4⟩
      have hB5 := hB3.trans (hB4.mono hB3.size)
      clear hB4
      go_wp2_with fail
      refine (HNB.out _).mono ?_
      rintro e w4 ⟨rfl, hB6⟩
      have hB7 := hB5.trans (hB6.mono hB5.size)
      clear hB6
      go_wp2_with fail
      go_ret
      exact ⟨ret_bool (by simp), hB7⟩
    · rw [sA] at hw
      have hlt : checkL a.data.toList < a.size := by omega
      have h3 : decide (checkL a.data.toList = a.size) = false := by simp; exact hw
      rw [h3] at KA
      clear h3 hw hab
      generalize (runesL a.data.toList).length = x at *
      generalize checkL a.data.toList = n at *
      generalize checkL b.data.toList = m at *
      generalize decide (m = b.size) = z at *
      generalize checkL (a ++ b).data.toList = m' at *
      generalize decide (m' = (a ++ b).size) = z' at *
      have HKA := Lib.hid KA
      have HKB := Lib.hid KB
      have HKC := Lib.hid KC
      have HNA := Lib.hid NA
      clear KA KB KC NA NB NC sA sB hsz
      go_enter Try.func8, Try.ntmps8
      go_wp2_with fail
      refine (alive6_any _).mono ?_
      rintro e w1 ⟨rfl, hB⟩
      go_wp2_with fail
      refine (HKA.out _).mono ?_
      rintro e w' ⟨rfl, rfl⟩
      go_wp2_with fail
      refine (HKB.out _).mono ?_
      rintro e w' ⟨rfl, rfl⟩
      go_wp2_with fail
      refine (HKC.out _).mono ?_
      rintro e w' ⟨rfl, rfl⟩
      go_wp2_with fail
      refine (HNA.out _).mono ?_
      rintro e w3 ⟨rfl, hB4⟩
      have hB5 := hB.trans (hB4.mono hB.size)
      clear hB4
      go_wp2_with fail
      go_ret
      exact ⟨ret_bool (by simp), hB5⟩
end Go.Proofs.Ytgdnibdahldekaa
