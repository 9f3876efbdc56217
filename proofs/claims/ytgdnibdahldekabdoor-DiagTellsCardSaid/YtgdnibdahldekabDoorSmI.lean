/- The walk of the library's insertion sort over a row of reasons. -/
import Derived.Test.YtgdnibdahldekabDoorSmW
import Derived.StillTailTactics
namespace Go.Proofs.YtgdnibdahldekabDoor
open Go.RowKit
set_option linter.unusedVariables false

/-- What stood at i stands at j, ahead; what lay between is one further. -/
def mvR (f : Nat → Nat) (j i : Nat) : Nat → Nat := fun k => if j < k ∧ k ≤ i then f (k - 1) else if k = j then f i else f k
theorem mvR_self (f : Nat → Nat) (i : Nat) (k : Nat) : mvR f i i k = f k := by
  unfold mvR
  rw [if_neg (by omega)]
  by_cases h : k = i
  · rw [if_pos h, h]
  · rw [if_neg h]
theorem mvR_step (f : Nat → Nat) (j i : Nat) (h : j + 1 ≤ i) (k : Nat) : swp (mvR f (j + 1) i) (j + 1) j k = mvR f j i k := by
  unfold swp mvR
  by_cases h1 : k = j + 1
  · rw [if_pos h1, if_neg (by omega), if_neg (by omega), if_pos (by omega)]
    congr 1; omega
  · rw [if_neg h1]
    by_cases h2 : k = j
    · rw [if_pos h2, if_neg (by omega), if_pos rfl, if_neg (by omega), if_pos h2]
    · rw [if_neg h2]
      by_cases h3 : j < k ∧ k ≤ i
      · rw [if_pos (by omega), if_pos h3]
      · rw [if_neg (by omega), if_neg h1, if_neg h3, if_neg h2]
/-- What stood at a stands at k, behind; what lay between is one ahead. -/
def mvL (f : Nat → Nat) (a i : Nat) : Nat → Nat := fun k => if a ≤ k ∧ k < i then f (k + 1) else if k = i then f a else f k
theorem mvL_self (f : Nat → Nat) (a : Nat) (k : Nat) : mvL f a a k = f k := by
  unfold mvL
  rw [if_neg (by omega)]
  by_cases h : k = a
  · rw [if_pos h, h]
  · rw [if_neg h]
theorem mvL_step (f : Nat → Nat) (a i : Nat) (h : a ≤ i) (k : Nat) : swp (mvL f a i) i (i + 1) k = mvL f a (i + 1) k := by
  unfold swp mvL
  by_cases h1 : k = i
  · rw [if_pos h1, if_neg (by omega), if_neg (by omega), if_pos (by omega)]
    congr 1; omega
  · rw [if_neg h1]
    by_cases h2 : k = i + 1
    · rw [if_pos h2, if_neg (by omega), if_pos rfl, if_neg (by omega), if_pos h2]
    · rw [if_neg h2]
      by_cases h3 : a ≤ k ∧ k < i
      · rw [if_pos h3, if_pos (by omega)]
      · rw [if_neg h3, if_neg h1, if_neg (by omega), if_neg h2]
theorem Below.grownN {w w' : World} (h : Below w.heap.size w w') (row : Option Nat) : w.grownBy w' row := ⟨h.os, h.tape, h.output, h.size, fun k hk _ => h.block k hk⟩
abbrev keyO (o : Nat → Di) : Nat → Int := fun p => (o p).at_

set_option maxRecDepth 100000 in
set_option maxHeartbeats 3200000 in
theorem ins_any (g cap n a b : Nat) (o : Nat → Di) (f : Nat → Nat) (hab : a ≤ b) (hb : b ≤ n) (hn : n ≤ cap) (hm : n ≤ 1000) (ht : ∀ i j, a ≤ i → i < j → j < b → f i < f j) (w : World) (h : DR w g cap n o f) :
    Calls Tryd.prog 75 #[.slice (some ⟨g, 0, none⟩) n cap, .int .i64 a, .int .i64 b, cmpV] w fun e W' =>
      (∃ v, e = .returned v) ∧ ∃ f', Srt (keyO o) f' a b ∧ Moves f f' a b ∧ DR W' g cap n o f' ∧ w.grownBy W' (some g) := by
  have HT := Lib.hid ht
  clear ht
  go_enter Tryd.func75, Tryd.ntmps75
  go_wp2
  go_loopw [8] (fun p wr => ∃ (i : Nat) (f' : Nat → Nat), p = .int .i64 ((i : Int) + 1) ∧ a ≤ i ∧ (i + 1 ≤ b ∨ i = a) ∧ Srt (keyO o) f' a (i + 1) ∧ Moves f f' a (i + 1) ∧ DR wr g cap n o f' ∧ w.grownBy wr (some g)) (fun p _ => b + 1 - (intOf p).toNat)
  case atStart => exact ⟨a, f, by go_num, Nat.le_refl _, .inr rfl, fun i j h1 h2 h3 => by omega, Moves.refl _ _ _, h, World.grownBy.refl _ _⟩
  case round =>
    obtain ⟨i, f', rfl, hai, hib, hS, hM, hD, hG⟩ := hrel
    have HS := Lib.hid hS
    have HM := Lib.hid hM
    clear hS hM
    by_cases hlt : i + 1 < b
    · have hltz : (i : Int) + 1 < (b : Int) := by omega
      go_wp2_with fail
      go_loopw [9] (fun p wr => ∃ j : Nat, p = .int .i64 j ∧ a ≤ j ∧ j ≤ i + 1 ∧ (∀ k, j ≤ k → k < i + 1 → keyO o (f' (i + 1)) < keyO o (f' k)) ∧ DR wr g cap n o (mvR f' j (i + 1)) ∧ w.grownBy wr (some g)) (fun p _ => (intOf p).toNat)
      case atStart => exact ⟨i + 1, by go_num, by omega, Nat.le_refl _, fun k h1 h2 => by omega, hD.congr fun k => mvR_self _ _ _, hG⟩
      case round =>
        obtain ⟨j, rfl, haj, hji, hhi, hD, hG⟩ := hrel
        have HH := Lib.hid hhi
        clear hhi
        by_cases hja : a < j
        · obtain ⟨j, rfl⟩ : ∃ j', j = j' + 1 := ⟨j - 1, by omega⟩
          have hd := hD
          obtain ⟨p0, p1, p2⟩ := hd.cells (i := j + 1) (by omega)
          obtain ⟨q0, q1, q2⟩ := hd.cells (i := j) (by omega)
          have ep : mvR f' (j + 1) (i + 1) (j + 1) = f' (i + 1) := by unfold mvR; rw [if_neg (by omega), if_pos rfl]
          have eq : mvR f' (j + 1) (i + 1) j = f' j := by unfold mvR; rw [if_neg (by omega), if_neg (by omega)]
          rw [ep] at p0 p1 p2
          rw [eq] at q0 q1 q2
          have hb1 : (j : Int) + 1 < (n : Int) := by omega
          have hb2 : (j : Int) < (n : Int) := by omega
          have hb3 : (0 : Int) ≤ (j : Int) + 1 := by omega
          have hja' : (a : Int) < (j : Int) + 1 := by omega
          have HC := Lib.hid fun W => cmp_any (o (f' (i + 1))) (o (f' j)) W
          by_cases hk : (o (f' (i + 1))).at_ < (o (f' j)).at_
          · go_wp2_with fail
            have hwj : IntKind.i64.wrap (j : Int) = (j : Int) := IntWalk.i64_in _ (by omega)
            go_still_tail 14, (by kernel_rfl)
            clear hwj
            change wpList _ _ _ _ _ wr.drew
            have hDd := hd.drew
            have hGd := GB_drew hG
            generalize wr.drew = w2 at *
            go_wp2_with (go_at_call 29; refine (HC.out _).mono ?_; rintro e w1 ⟨z, rfl, hz, hB1⟩; have hz0 : z < 0 := hz.1 hk)
            have hD1 := hDd.below hB1
            obtain ⟨p0, p1, p2⟩ := hD1.cells (i := j + 1) (by omega)
            obtain ⟨q0, q1, q2⟩ := hD1.cells (i := j) (by omega)
            rw [ep] at p0 p1 p2
            rw [eq] at q0 q1 q2
            have fz := hD1.frozen
            have hG1 := (hGd.trans (Below.grownN hB1 (some g)))
            have HD1 := Lib.hid hD1
            clear hD1 hDd hd hb1 hb2 hb3 hja'
            go_wp2_with fail
            go_region
            all_goals
              obtain ⟨W', hW', hD2, hG2⟩ := HD1.out.swap hn (i := j + 1) (j := j) (by omega) (by omega) (by omega)
              rw [ep, eq] at hW'
              rw [hW']
              go_wp2
              go_roundw
              case rel => exact ⟨j, by go_num, by omega, by omega, (fun k h1 h2 => by
                by_cases e : k = j
                · rw [e]; exact hk
                · exact HH.out k (by omega) h2), (hD2.congr fun k => (mvR_step f' j (i + 1) (by omega) k).symm), GB_drew (hG1.trans hG2)⟩
              case measure => simp [intOf]
          · have hOut : Srt (keyO o) (mvR f' (j + 1) (i + 1)) a (i + 1 + 1) ∧ Moves f' (mvR f' (j + 1) (i + 1)) a (i + 1 + 1) :=
              merge_one_right ⟨HS.out, fun x y h1 h2 h3 => by omega, fun x y h1 h2 h3 h4 => by
                obtain rfl : y = i + 1 := by omega
                obtain ⟨x', e1, e2, e3⟩ := HM.out.inn x h1 h2
                rw [e3, HM.out.out (i + 1) (by omega)]
                exact HT.out x' (i + 1) e1 e2 (by omega)⟩ (by omega) (by omega) (fun k h1 h2 => by
                  by_cases e : k = j
                  · rw [e]; exact hk
                  · have := (HS.out k j h1 (by omega) (by omega)).le
                    have hk' : ¬ (o (f' (i + 1))).at_ < (o (f' j)).at_ := hk
                    have t' : (o (f' k)).at_ ≤ (o (f' j)).at_ := this
                    show ¬ (o (f' (i + 1))).at_ < (o (f' k)).at_
                    omega) HH.out (fun k => rfl)
            have HO := Lib.hid hOut
            have HK := Lib.hid hk
            clear hOut hk
            go_wp2_with fail
            have hwj : IntKind.i64.wrap (j : Int) = (j : Int) := IntWalk.i64_in _ (by omega)
            go_still_tail 14, (by kernel_rfl)
            clear hwj
            change wpList _ _ _ _ _ wr.drew
            have hDd := hd.drew
            have hGd := GB_drew hG
            generalize wr.drew = w2 at *
            go_wp2_with (go_at_call 29; refine (HC.out _).mono ?_; rintro e w1 ⟨z, rfl, hz, hB1⟩; have hz0 : ¬ z < 0 := Int.not_lt.2 (hz.2 (by have h5 := HK.out; omega)))
            have hD1 := hDd.below hB1
            have hG1 := (hGd.trans (Below.grownN hB1 (some g)))
            go_wp2
            go_roundw
            case rel => exact ⟨i + 1, mvR f' (j + 1) (i + 1), by go_num, by omega, .inl (by omega), HO.out.1, (HM.out.mono (Nat.le_refl _) (by omega)).trans HO.out.2, hD1, hG1⟩
            case measure => simp [intOf]; omega
        · have hja' : ¬ (a : Int) < (j : Int) := by omega
          obtain rfl : j = a := by omega
          have hOut : Srt (keyO o) (mvR f' j (i + 1)) j (i + 1 + 1) ∧ Moves f' (mvR f' j (i + 1)) j (i + 1 + 1) :=
            merge_one_right ⟨HS.out, fun x y h1 h2 h3 => by omega, fun x y h1 h2 h3 h4 => by
              obtain rfl : y = i + 1 := by omega
              obtain ⟨x', e1, e2, e3⟩ := HM.out.inn x h1 h2
              rw [e3, HM.out.out (i + 1) (by omega)]
              exact HT.out x' (i + 1) e1 e2 (by omega)⟩ (by omega) (by omega) (fun k h1 h2 => by omega) HH.out (fun k => rfl)
          have HO := Lib.hid hOut
          clear hOut
          have hDd := hD.drew
          have hGd := GB_drew hG
          have hdg : decide ((j : Int) > (j : Int)) = false := decide_eq_false (by omega)
          clear hD hG
          go_wp2_with fail
          go_big_region
          all_goals
          go_wp2
          go_roundw
          case rel => exact ⟨i + 1, mvR f' j (i + 1), by go_num, by omega, .inl (by omega), HO.out.1, (HM.out.mono (Nat.le_refl _) (by omega)).trans HO.out.2, hDd, hGd⟩
          case measure => simp [intOf]; omega
    · have hltz : ¬ (i : Int) + 1 < (b : Int) := by omega
      have HL := Lib.hid (show b ≤ i + 1 by omega)
      go_wp2
      go_end0
      have hle := HL.out
      rcases hib with h1 | rfl
      · obtain rfl : b = i + 1 := by omega
        exact ⟨⟨_, rfl⟩, f', HS.out, HM.out, hD, hG⟩
      · have hM1 : ∀ k, f' k = f k := fun k => by
          by_cases e : k = i
          · obtain ⟨k', h1, h2, h3⟩ := HM.out.inn k (by omega) (by omega)
            rw [h3]
            congr 1; omega
          · exact HM.out.out k (by omega)
        exact ⟨⟨_, rfl⟩, f', fun x y h1 h2 h3 => by omega, ⟨fun k _ => hM1 k, fun k h1 h2 => ⟨k, h1, h2, hM1 k⟩⟩, hD, hG⟩
end Go.Proofs.YtgdnibdahldekabDoor
