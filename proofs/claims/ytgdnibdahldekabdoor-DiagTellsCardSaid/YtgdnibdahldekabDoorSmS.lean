/- The walks of the library's stable sort over a row of reasons: blocks, doubled blocks. -/
import Derived.Test.YtgdnibdahldekabDoorSmN
import Derived.Test.YtgdnibdahldekabDoorSmB
namespace Go.Proofs.YtgdnibdahldekabDoor
open Go.RowKit Go.Sort
set_option linter.unusedVariables false

/-- Blocks of twenty, one by one. -/
def ST1 (o : Nat → Di) (f : Nat → Nat) (g cap n : Nat) (w : World) (p q : Value) (wr : World) : Prop :=
  ∃ (a q' : Nat) (f' : Nat → Nat), p = .int .i64 a ∧ q = .int .i64 ((a : Int) + 20) ∧ a = q' * 20 ∧ a ≤ n ∧ Blk (keyO o) f' n 20 a ∧ Tag f' n 20 ∧ (∀ k, a ≤ k → f' k = f k) ∧ Moves f f' 0 n ∧ DR wr g cap n o f' ∧ w.grownBy wr (some g)
/-- Blocks of s are in order. -/
def ST2 (o : Nat → Di) (f : Nat → Nat) (g cap n : Nat) (w : World) (p : Value) (wr : World) : Prop :=
  ∃ (s : Nat) (f' : Nat → Nat), p = .int .i64 s ∧ 20 ≤ s ∧ s ≤ 2020 ∧ Blk (keyO o) f' n s n ∧ Tag f' n s ∧ Moves f f' 0 n ∧ DR wr g cap n o f' ∧ w.grownBy wr (some g)
/-- Two and two blocks of s, one by one. -/
def ST3 (o : Nat → Di) (f f0 : Nat → Nat) (g cap n s : Nat) (w : World) (p q : Value) (wr : World) : Prop :=
  ∃ (a q' : Nat) (f' : Nat → Nat), p = .int .i64 a ∧ q = .int .i64 ((a : Int) + 2 * (s : Int)) ∧ a = q' * (2 * s) ∧ a ≤ n ∧ Blk (keyO o) f' n (2 * s) a ∧ Tag f' n (2 * s) ∧ (∀ k, a ≤ k → f' k = f0 k) ∧ Moves f f' 0 n ∧ DR wr g cap n o f' ∧ w.grownBy wr (some g)

set_option maxRecDepth 100000 in
set_option maxHeartbeats 3200000 in
theorem stable_any (g cap n : Nat) (o : Nat → Di) (f : Nat → Nat) (hn : n ≤ cap) (hm : n ≤ 1000) (hinc : ∀ i j, i < j → j < n → f i < f j) (w : World) (h : DR w g cap n o f) :
    Calls Tryd.prog 58 #[.slice (some ⟨g, 0, none⟩) n cap, .int .i64 n, cmpV] w fun e W' =>
      (∃ v, e = .returned v) ∧ ∃ f', Srt (keyO o) f' 0 n ∧ Moves f f' 0 n ∧ DR W' g cap n o f' ∧ w.grownBy W' (some g) := by
  have HI := Lib.hid hinc
  clear hinc
  go_enter Tryd.func58, Tryd.ntmps58
  go_wp2
  go_loopw [7, 8] (fun p q wr => ST1 o f g cap n w p q wr) (fun p q _ => n + 20 - (intOf p).toNat)
  case atStart => exact ⟨0, 0, f, by go_num, by go_num, by omega, by omega, Blk.zero _ _ _ _, Tag.of_inc HI.out, fun k _ => rfl, Moves.refl _ _ _, h, World.grownBy.refl _ _⟩
  case round =>
    obtain ⟨a, q', f', rfl, rfl, haq, han, hBk, hTg, hRest, hMv, hD, hG⟩ := hrel
    have HB := Lib.hid hBk
    have HT := Lib.hid hTg
    have HR := Lib.hid hRest
    have HM := Lib.hid hMv
    have HQ := Lib.hid haq
    clear hBk hTg hRest hMv haq
    by_cases hlt : a + 20 ≤ n
    · have hz : (a : Int) + 20 ≤ (n : Int) := by omega
      have K := ins_any g cap n a (a + 20) o f' (by omega) hlt hn hm (fun i j h1 h2 h3 => by rw [HR.out i h1, HR.out j (by omega)]; exact HI.out i j h2 (by omega)) wr hD
      rw [show ((a + 20 : Nat) : Int) = (a : Int) + 20 by omega] at K
      have HK := Lib.hid K
      clear K
      go_wp2_with fail
      refine HK.out.mono ?_
      rintro e w1 ⟨⟨v1, rfl⟩, f2, s2, m2, hD1, hG1⟩
      have S2 := Lib.hid s2
      have M2 := Lib.hid m2
      clear s2 m2
      go_wp2
      go_roundw
      case rel => exact ⟨a + 20, q' + 1, f2, by go_num, by go_num, (by have := HQ.out; omega), hlt, HB.out.step M2.out S2.out HQ.out (fun k _ hk => hk), HT.out.moves (q := q') M2.out (by have := HQ.out; omega) (by have := HQ.out; omega) hlt,
        (fun k hk => by rw [M2.out.out k (by omega)]; exact HR.out k (by omega)), HM.out.trans (M2.out.mono (Nat.zero_le _) hlt), hD1, hG.trans hG1⟩
      case measure => simp [intOf]; omega
    · have hz : ¬ (a : Int) + 20 ≤ (n : Int) := by omega
      have HK := Lib.hid (ins_any g cap n a n o f' han (Nat.le_refl _) hn hm (fun i j h1 h2 h3 => by rw [HR.out i h1, HR.out j (by omega)]; exact HI.out i j h2 (by omega)) wr hD)
      go_wp2_with fail
      refine HK.out.mono ?_
      rintro e w1 ⟨⟨v1, rfl⟩, f2, s2, m2, hD1, hG1⟩
      have B2 := Lib.hid ((HB.out.step m2 s2 HQ.out (fun k hk _ => hk)).all (by omega))
      have T2 := Lib.hid (HT.out.moves (q := q') m2 (by have := HQ.out; omega) (by have := HQ.out; omega) (Nat.le_refl _))
      have M2 := Lib.hid (HM.out.trans (m2.mono (Nat.zero_le _) (Nat.le_refl _)))
      have hG2 := hG.trans hG1
      clear s2 m2 HB HT HR HM HQ HK hD hG hG1
      go_wp2_with fail
      go_loopw [6] (fun p wr => ST2 o f g cap n w p wr) (fun p _ => n - (intOf p).toNat)
      case atStart => exact ⟨20, f2, by go_num, by omega, by omega, B2.out, T2.out, M2.out, hD1, hG2⟩
      case round =>
        obtain ⟨s, f3, rfl, hs1, hs2, hBk, hTg, hMv, hD, hG⟩ := hrel
        have HB := Lib.hid hBk
        have HT := Lib.hid hTg
        have HM := Lib.hid hMv
        clear hBk hTg hMv B2 T2 M2
        by_cases hsn : s < n
        · have hz2 : (s : Int) < (n : Int) := by omega
          have DD := Lib.hid hD
          have GG := Lib.hid hG
          clear hD hG hD1 hG2
          go_wp2_with fail
          go_loopw [7, 8] (fun p q wr => ST3 o f f3 g cap n s w p q wr) (fun p q _ => n + 2 * s - (intOf p).toNat)
          case atStart => exact ⟨0, 0, f3, by go_num, by go_num, by omega, by omega, Blk.zero _ _ _ _, HT.out.double, fun k _ => rfl, HM.out, DD.out, GG.out⟩
          case round =>
            obtain ⟨a2, q2, f4, rfl, rfl, haq, han2, hBk, hTg, hRest, hMv, hD, hG⟩ := hrel
            have HB2 := Lib.hid hBk
            have HT2 := Lib.hid hTg
            have HR := Lib.hid hRest
            have HM2 := Lib.hid hMv
            have HQ := Lib.hid haq
            have mg : ∀ b, b ≤ a2 + 2 * s → b ≤ n → a2 + s ≤ b → Mrg (keyO o) f4 a2 (a2 + s) b := fun b h1 h2 h3 =>
              (HB.out.mrg HT.out HQ.out h1 h2 h3).congr (fun k k1 _ => HR.out k k1) (by omega) h3
            have MG := Lib.hid mg
            clear hBk hTg hRest hMv haq mg
            by_cases hlt2 : a2 + 2 * s ≤ n
            · have hz3 : (a2 : Int) + 2 * (s : Int) ≤ (n : Int) := by omega
              have K := sym_all g cap n o hn hm _ a2 (a2 + s) (a2 + 2 * s) f4 wr (Nat.le_refl _) (by omega) (by omega) hlt2 (MG.out _ (Nat.le_refl _) hlt2 (by omega)) hD
              unfold SymDoes at K
              rw [show ((a2 + s : Nat) : Int) = (a2 : Int) + (s : Int) by omega, show ((a2 + 2 * s : Nat) : Int) = (a2 : Int) + 2 * (s : Int) by omega] at K
              have HK := Lib.hid K
              clear K
              go_wp2_with fail
              refine HK.out.mono ?_
              rintro e w3 ⟨⟨v1, rfl⟩, f5, s5, m5, hD5, hG5⟩
              have S5 := Lib.hid s5
              have M5 := Lib.hid m5
              clear s5 m5
              go_wp2
              go_roundw
              case rel => exact ⟨a2 + 2 * s, q2 + 1, f5, by go_num, by go_num, (by have := HQ.out; rw [Nat.add_mul, Nat.one_mul]; omega), hlt2, HB2.out.step M5.out S5.out HQ.out (fun k _ hk => hk), HT2.out.moves (q := q2) M5.out (by have := HQ.out; omega) (by have := HQ.out; omega) hlt2,
                (fun k hk => by rw [M5.out.out k (by omega)]; exact HR.out k (by omega)), HM2.out.trans (M5.out.mono (Nat.zero_le _) hlt2), hD5, hG.trans hG5⟩
              case measure => simp [intOf]; omega
            · have hz3 : ¬ (a2 : Int) + 2 * (s : Int) ≤ (n : Int) := by omega
              by_cases hlt3 : a2 + s < n
              · have hz4 : (a2 : Int) + (s : Int) < (n : Int) := by omega
                have K := sym_all g cap n o hn hm _ a2 (a2 + s) n f4 wr (Nat.le_refl _) (by omega) (by omega) (Nat.le_refl _) (MG.out _ (by omega) (Nat.le_refl _) (by omega)) hD
                unfold SymDoes at K
                rw [show ((a2 + s : Nat) : Int) = (a2 : Int) + (s : Int) by omega] at K
                have HK := Lib.hid K
                clear K
                go_wp2_with fail
                refine HK.out.mono ?_
                rintro e w3 ⟨⟨v1, rfl⟩, f5, s5, m5, hD5, hG5⟩
                have B5 := Lib.hid ((HB2.out.step m5 s5 HQ.out (fun k hk _ => hk)).all (by omega))
                have T5 := Lib.hid (HT2.out.moves (q := q2) m5 (by have := HQ.out; omega) (by have := HQ.out; omega) (Nat.le_refl _))
                have M5 := Lib.hid (HM2.out.trans (m5.mono (Nat.zero_le _) (Nat.le_refl _)))
                clear s5 m5
                go_wp2
                go_roundw
                case rel => exact ⟨2 * s, f5, by go_num, by omega, by omega, B5.out, T5.out, M5.out, hD5, hG.trans hG5⟩
                case measure => simp [intOf]; omega
              · have hz4 : ¬ (a2 : Int) + (s : Int) < (n : Int) := by omega
                have B5 := Lib.hid (HB.out.rest HB2.out HR.out HQ.out (by omega))
                go_wp2
                go_roundw
                case rel => exact ⟨2 * s, f4, by go_num, by omega, by omega, B5.out, HT2.out, HM2.out, hD, hG⟩
                case measure => simp [intOf]; omega
        · have hz2 : ¬ (s : Int) < (n : Int) := by omega
          go_wp2
          go_returns
          exact ⟨⟨_, rfl⟩, f3, HB.out.srt (by omega), HM.out, hD, hG⟩
end Go.Proofs.YtgdnibdahldekabDoor
