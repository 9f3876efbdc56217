/- The walks of xtok's digits, numbers and references. -/
import Derived.Test.YtmhhkekokfpppaaDoorProg
import Derived.Test.YtmhhkekokfpppaaDoorShelf
import Derived.Test.YtmhhkekokfpppaaDoorXkD
import Derived.Test.YtmhhkekokfpppaaDoorUtC
import Derived.Test.YtmhhkekokfpppaaDoorMem
import Derived.WalkKit
import Derived.ProofKit
import Derived.LoopTactic
import Derived.WalkSpells
import Derived.WalkLawsBesides
import Derived.Lib.Hide
import Derived.Outline
import Derived.Handy
namespace Go.Proofs.YtmhhkekokfpppaaDoor
open Go.RowKit
set_option linter.unusedVariables false

set_option maxRecDepth 20000 in
set_option maxHeartbeats 800000 in
theorem digit_any (c : UInt8) (w : World) :
    Calls Tryd.prog 84 #[.int .u8 c.toNat] w fun e w' => e = .returned (.int .i64 (digitX c.toNat : Nat)) ∧ w = w' := by
  have hc := UInt8.toNat_lt c
  generalize c.toNat = c at *
  go_enter Tryd.func84, Tryd.ntmps84
  go_wp2
  all_goals go_ret
  all_goals exact ⟨ret_int (by rw [digitX]; (repeat' split) <;> omega), rfl⟩

/-- What the number of a character comes to. -/
def CharE (o : Option (List UInt8)) (e : Ending) : Prop :=
  match o with
  | none => ∃ t, e = .returned (.tuple #[.string t, .bool false])
  | some t => e = .returned (.tuple #[.string ⟨t.toArray⟩, .bool true])

set_option maxRecDepth 20000 in
set_option maxHeartbeats 1600000 in
theorem xchar16 (s : ByteArray) (hs : s.size ≤ 9223372036854775807) (w : World) :
    Calls Tryd.prog 73 #[.string s, .int .i64 16, .int .i64 6] w fun e w' => CharE (charX s.data.toList 16 6) e ∧ Below w.heap.size w w' := by
  have hls : s.data.toList.length = s.size := by simp
  by_cases h1 : s.size < 1
  · have H := Lib.hid (charX_len0 (b := 16) (m := 6) (l := s.data.toList) (.inl (by omega)))
    clear hls
    go_enter Tryd.func73, Tryd.ntmps73
    go_wp2
    go_ret2
    exact ⟨by rw [H.out]; exact ⟨_, rfl⟩, Below.refl _ _⟩
  by_cases h2 : 6 < s.size
  · have H := Lib.hid (charX_len0 (b := 16) (m := 6) (l := s.data.toList) (.inr (by omega)))
    clear hls
    go_enter Tryd.func73, Tryd.ntmps73
    go_wp2
    go_ret2
    exact ⟨by rw [H.out]; exact ⟨_, rfl⟩, Below.refl _ _⟩
  have hN := charX_num (b := 16) (m := 6) (l := s.data.toList) (by omega)
  have HN := Lib.hid hN
  clear hN hls
  go_enter Tryd.func73, Tryd.ntmps73
  go_wp2
  go_loop [8, 24] (fun v p => ∃ (k r : Nat), k ≤ s.size ∧ v = .int .i64 r ∧ p = .int .i64 k ∧ r < 16 ^ k ∧ numX 16 s.data.toList 0 = numX 16 (s.data.toList.drop k) r)
      (fun v p => s.size - (intOf p).toNat)
  case atStart => exact ⟨0, 0, by omega, rfl, rfl, by decide, by simp⟩
  case round =>
    obtain ⟨k, r, hk, rfl, rfl, hr, h⟩ := hrel
    have hr7 : r < 16777217 := Nat.lt_of_lt_of_le hr (Nat.le_trans (Nat.pow_le_pow_right (by decide) (show k ≤ 6 by omega)) (by decide))
    have HR := Lib.hid hr
    have H := Lib.hid h
    clear h hr
    by_cases hlt : k < s.size
    · have HD := Lib.hid (drop_cons s k hlt)
      obtain ⟨d, hd⟩ : ∃ d, digitX (s[k]).toNat = d := ⟨_, rfl⟩
      have hd16 : d ≤ 16 := by rw [← hd]; exact digitX_le _
      have HG := Lib.hid hd
      clear hd
      by_cases hb : 16 ≤ d
      · have hbad : charX s.data.toList 16 6 = none := by rw [HN.out, H.out, HD.out, numX, if_pos (by rw [HG.out]; exact hb)]; rfl
        have HB := Lib.hid hbad
        clear hbad
        go_wp2_with fail
        refine (digit_any _ _).mono ?_
        rintro e w' ⟨rfl, rfl⟩
        rw [HG.out]
        go_wp2
        go_ret2
        exact ⟨by rw [HB.out]; exact ⟨_, rfl⟩, Below.refl _ _⟩
      · go_wp2_with fail
        refine (digit_any _ _).mono ?_
        rintro e w' ⟨rfl, rfl⟩
        rw [HG.out]
        go_wp2
        go_round
        case rel =>
          refine ⟨k + 1, r * 16 + d, by omega, by go_num, by go_num, ?_, ?_⟩
          · have := HR.out
            rw [Nat.pow_succ]
            omega
          · rw [H.out, HD.out, numX, if_neg (by rw [HG.out]; exact hb), HG.out]
        case measure => simp [intOf]; omega
    · obtain rfl : k = s.size := by omega
      have hfin : numX 16 s.data.toList 0 = some r := by rw [H.out]; exact numX_end (by simp)
      have HF := Lib.hid hfin
      clear hfin
      by_cases hw : widthR (r : Int) = 0
      · have hch : charX s.data.toList 16 6 = none := by
          rw [HN.out, HF.out]
          have : ¬ charR (r : Int) = true := fun h => charR_width h hw
          simp [this]
        have HB := Lib.hid hch
        have HP := Lib.hid (put_bad r hw)
        clear hch hw
        go_wp2_with fail
        refine (HP.out _).mono ?_
        rintro e w' ⟨rfl, rfl⟩
        go_wp2
        go_ret2
        exact ⟨by rw [HB.out]; exact ⟨_, rfl⟩, Below.refl _ _⟩
      · have HP := Lib.hid (put_ok r hw)
        clear hw
        go_wp2_with fail
        refine (HP.out _).mono ?_
        rintro e w' ⟨rfl, hB⟩
        by_cases hc : charR (r : Int) = true
        · have hch : charX s.data.toList 16 6 = some (putR r) := by rw [HN.out, HF.out]; simp [hc]
          have HB := Lib.hid hch
          have HC := Lib.hid hc
          clear hch hc
          go_wp2_with fail
          refine (char_any _ _).mono ?_
          rintro e w'' ⟨rfl, rfl⟩
          rw [HC.out]
          go_wp2
          go_ret2
          exact ⟨by rw [HB.out]; rfl, hB⟩
        · have hch : charX s.data.toList 16 6 = none := by rw [HN.out, HF.out]; simp [hc]
          have HB := Lib.hid hch
          have HC := Lib.hid (show charR (r : Int) = false by simpa using hc)
          clear hch hc
          go_wp2_with fail
          refine (char_any _ _).mono ?_
          rintro e w'' ⟨rfl, rfl⟩
          rw [HC.out]
          go_wp2
          go_ret2
          exact ⟨by rw [HB.out]; exact ⟨_, rfl⟩, hB⟩

set_option maxRecDepth 20000 in
set_option maxHeartbeats 1600000 in
theorem xchar10 (s : ByteArray) (hs : s.size ≤ 9223372036854775807) (w : World) :
    Calls Tryd.prog 73 #[.string s, .int .i64 10, .int .i64 7] w fun e w' => CharE (charX s.data.toList 10 7) e ∧ Below w.heap.size w w' := by
  have hls : s.data.toList.length = s.size := by simp
  by_cases h1 : s.size < 1
  · have H := Lib.hid (charX_len0 (b := 10) (m := 7) (l := s.data.toList) (.inl (by omega)))
    clear hls
    go_enter Tryd.func73, Tryd.ntmps73
    go_wp2
    go_ret2
    exact ⟨by rw [H.out]; exact ⟨_, rfl⟩, Below.refl _ _⟩
  by_cases h2 : 7 < s.size
  · have H := Lib.hid (charX_len0 (b := 10) (m := 7) (l := s.data.toList) (.inr (by omega)))
    clear hls
    go_enter Tryd.func73, Tryd.ntmps73
    go_wp2
    go_ret2
    exact ⟨by rw [H.out]; exact ⟨_, rfl⟩, Below.refl _ _⟩
  have hN := charX_num (b := 10) (m := 7) (l := s.data.toList) (by omega)
  have HN := Lib.hid hN
  clear hN hls
  go_enter Tryd.func73, Tryd.ntmps73
  go_wp2
  go_loop [8, 24] (fun v p => ∃ (k r : Nat), k ≤ s.size ∧ v = .int .i64 r ∧ p = .int .i64 k ∧ r < 10 ^ k ∧ numX 10 s.data.toList 0 = numX 10 (s.data.toList.drop k) r)
      (fun v p => s.size - (intOf p).toNat)
  case atStart => exact ⟨0, 0, by omega, rfl, rfl, by decide, by simp⟩
  case round =>
    obtain ⟨k, r, hk, rfl, rfl, hr, h⟩ := hrel
    have hr7 : r < 10000001 := Nat.lt_of_lt_of_le hr (Nat.le_trans (Nat.pow_le_pow_right (by decide) (show k ≤ 7 by omega)) (by decide))
    have HR := Lib.hid hr
    have H := Lib.hid h
    clear h hr
    by_cases hlt : k < s.size
    · have HD := Lib.hid (drop_cons s k hlt)
      obtain ⟨d, hd⟩ : ∃ d, digitX (s[k]).toNat = d := ⟨_, rfl⟩
      have hd16 : d ≤ 16 := by rw [← hd]; exact digitX_le _
      have HG := Lib.hid hd
      clear hd
      by_cases hb : 10 ≤ d
      · have hbad : charX s.data.toList 10 7 = none := by rw [HN.out, H.out, HD.out, numX, if_pos (by rw [HG.out]; exact hb)]; rfl
        have HB := Lib.hid hbad
        clear hbad
        go_wp2_with fail
        refine (digit_any _ _).mono ?_
        rintro e w' ⟨rfl, rfl⟩
        rw [HG.out]
        go_wp2
        go_ret2
        exact ⟨by rw [HB.out]; exact ⟨_, rfl⟩, Below.refl _ _⟩
      · go_wp2_with fail
        refine (digit_any _ _).mono ?_
        rintro e w' ⟨rfl, rfl⟩
        rw [HG.out]
        go_wp2
        go_round
        case rel =>
          refine ⟨k + 1, r * 10 + d, by omega, by go_num, by go_num, ?_, ?_⟩
          · have := HR.out
            rw [Nat.pow_succ]
            omega
          · rw [H.out, HD.out, numX, if_neg (by rw [HG.out]; exact hb), HG.out]
        case measure => simp [intOf]; omega
    · obtain rfl : k = s.size := by omega
      have hfin : numX 10 s.data.toList 0 = some r := by rw [H.out]; exact numX_end (by simp)
      have HF := Lib.hid hfin
      clear hfin
      by_cases hw : widthR (r : Int) = 0
      · have hch : charX s.data.toList 10 7 = none := by
          rw [HN.out, HF.out]
          have : ¬ charR (r : Int) = true := fun h => charR_width h hw
          simp [this]
        have HB := Lib.hid hch
        have HP := Lib.hid (put_bad r hw)
        clear hch hw
        go_wp2_with fail
        refine (HP.out _).mono ?_
        rintro e w' ⟨rfl, rfl⟩
        go_wp2
        go_ret2
        exact ⟨by rw [HB.out]; exact ⟨_, rfl⟩, Below.refl _ _⟩
      · have HP := Lib.hid (put_ok r hw)
        clear hw
        go_wp2_with fail
        refine (HP.out _).mono ?_
        rintro e w' ⟨rfl, hB⟩
        by_cases hc : charR (r : Int) = true
        · have hch : charX s.data.toList 10 7 = some (putR r) := by rw [HN.out, HF.out]; simp [hc]
          have HB := Lib.hid hch
          have HC := Lib.hid hc
          clear hch hc
          go_wp2_with fail
          refine (char_any _ _).mono ?_
          rintro e w'' ⟨rfl, rfl⟩
          rw [HC.out]
          go_wp2
          go_ret2
          exact ⟨by rw [HB.out]; rfl, hB⟩
        · have hch : charX s.data.toList 10 7 = none := by rw [HN.out, HF.out]; simp [hc]
          have HB := Lib.hid hch
          have HC := Lib.hid (show charR (r : Int) = false by simpa using hc)
          clear hch hc
          go_wp2_with fail
          refine (char_any _ _).mono ?_
          rintro e w'' ⟨rfl, rfl⟩
          rw [HC.out]
          go_wp2
          go_ret2
          exact ⟨by rw [HB.out]; exact ⟨_, rfl⟩, hB⟩
end Go.Proofs.YtmhhkekokfpppaaDoor
