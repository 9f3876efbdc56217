/- The walks of xtok's digits, numbers and references. The walks of xtok's references. -/
import Derived.Test.YtlldpmjnledhgaaGreatDoorProg
import Derived.Test.YtlldpmjnledhgaaGreatDoorShelf
import Derived.Test.YtlldpmjnledhgaaGreatDoorXkAL
import Derived.Test.YtlldpmjnledhgaaGreatDoorUtNC
import Derived.Test.YtlldpmjnledhgaaGreatDoorMem
import Derived.WalkKit
import Derived.ProofKit
import Derived.LoopTactic
import Derived.WalkSpells
import Derived.WalkLawsBesides
import Derived.Lib.Hide
import Derived.Outline
import Derived.Handy
namespace Go.Proofs.YtlldpmjnledhgaaGreatDoor
open Go.RowKit
set_option linter.unusedVariables false

set_option maxRecDepth 20000 in
set_option maxHeartbeats 800000 in
theorem digit_any (c : UInt8) (w : World) :
    Calls Tryz.prog 115 #[.int .u8 c.toNat] w fun e w' => e = .returned (.int .i64 (digitX c.toNat : Nat)) ∧ w = w' := by
  have hc := UInt8.toNat_lt c
  generalize c.toNat = c at *
  go_enter Tryz.func115, Tryz.ntmps115
  go_wp2
  all_goals go_ret
  all_goals exact ⟨ret_int (by rw [digitX]; (repeat' split) <;> omega), rfl⟩

/-- What the number of a character comes to. -/
def CharE (o : Option (List UInt8)) (e : Ending) : Prop :=
  match o with
  | none => ∃ t, e = .returned (.tuple #[.string t, .bool false])
  | some t => e = .returned (.tuple #[.string ⟨t.toArray⟩, .bool true])

set_option maxRecDepth 20000 in
set_option maxHeartbeats 1600000 in
theorem xchar16 (s : ByteArray) (hs : s.size ≤ 9223372036854775807) (w : World) :
    Calls Tryz.prog 104 #[.string s, .int .i64 16, .int .i64 6] w fun e w' => CharE (charX s.data.toList 16 6) e ∧ Below w.heap.size w w' := by
  have hls : s.data.toList.length = s.size := by simp
  by_cases h1 : s.size < 1
  · have H := Lib.hid (charX_len0 (b := 16) (m := 6) (l := s.data.toList) (.inl (by omega)))
    clear hls
    go_enter Tryz.func104, Tryz.ntmps104
    go_wp2
    go_ret2
    exact ⟨by rw [H.out]; exact ⟨_, rfl⟩, Below.refl _ _⟩
  by_cases h2 : 6 < s.size
  · have H := Lib.hid (charX_len0 (b := 16) (m := 6) (l := s.data.toList) (.inr (by omega)))
    clear hls
    go_enter Tryz.func104, Tryz.ntmps104
    go_wp2
    go_ret2
    exact ⟨by rw [H.out]; exact ⟨_, rfl⟩, Below.refl _ _⟩
  have hN := charX_num (b := 16) (m := 6) (l := s.data.toList) (by omega)
  have HN := Lib.hid hN
  clear hN hls
  go_enter Tryz.func104, Tryz.ntmps104
  go_wp2
  go_loop [8, 24] (fun v p => ∃ (k r : Nat), k ≤ s.size ∧ v = .int .i64 r ∧ p = .int .i64 k ∧ r < 16 ^ k ∧ numX 16 s.data.toList 0 = numX 16 (s.data.toList.drop k) r)
      (fun v p => s.size - (intOf p).toNat)
  case atStart => exact ⟨0, 0, by omega, rfl, rfl, by decide, by simp⟩
  case round =>
    obtain ⟨k, r, hk, rfl, rfl, hr, h⟩ := hrel
    have hr7 : r < 16777217 := Nat.lt_of_lt_of_le hr (Nat.le_trans (Nat.pow_le_pow_right (by decide) (show k ≤ 6 by omega)) (by decide))
    have HR := Lib.hid hr
    have H := Lib.hid h
    clear h hr
    by_cases hlt : k < s.size
    · have HD := Lib.hid (drop_cons s k hlt)
      obtain ⟨d, hd⟩ : ∃ d, digitX (s[k]).toNat = d := ⟨_, rfl⟩
      have hd16 : d ≤ 16 := by rw [← hd]; exact digitX_le _
      have HG := Lib.hid hd
      clear hd
      by_cases hb : 16 ≤ d
      · have hbad : charX s.data.toList 16 6 = none := by rw [HN.out, H.out, HD.out, numX, if_pos (by rw [HG.out]; exact hb)]; rfl
        have HB := Lib.hid hbad
        clear hbad
        go_wp2_with fail
        refine (digit_any _ _).mono ?_
        rintro e w' ⟨rfl, rfl⟩
        rw [HG.out]
        go_wp2
        go_ret2
        exact ⟨by rw [HB.out]; exact ⟨_, rfl⟩, Below.refl _ _⟩
      · go_wp2_with fail
        refine (digit_any _ _).mono ?_
        rintro e w' ⟨rfl, rfl⟩
        rw [HG.out]
        go_wp2
        go_round
        case rel =>
          refine ⟨k + 1, r * 16 + d, by omega, by go_num, by go_num, ?_, ?_⟩
          · have := HR.out
            rw [Nat.pow_succ]
            omega
          · rw [H.out, HD.out, numX, if_neg (by rw [HG.out]; exact hb), HG.out]
        case measure => simp [intOf]; omega
    · obtain rfl : k = s.size := by omega
      have hfin : numX 16 s.data.toList 0 = some r := by rw [H.out]; exact numX_end (by simp)
      have HF := Lib.hid hfin
      clear hfin
      by_cases hw : widthR (r : Int) = 0
      · have hch : charX s.data.toList 16 6 = none := by
          rw [HN.out, HF.out]
          have : ¬ charR (r : Int) = true := fun h => charR_width h hw
          simp [this]
        have HB := Lib.hid hch
        have HP := Lib.hid (put_bad r hw)
        clear hch hw
        go_wp2_with fail
        refine (HP.out _).mono ?_
        rintro e w' ⟨rfl, rfl⟩
        go_wp2
        go_ret2
        exact ⟨by rw [HB.out]; exact ⟨_, rfl⟩, Below.refl _ _⟩
      · have HP := Lib.hid (put_ok r hw)
        clear hw
        go_wp2_with fail
        refine (HP.out _).mono ?_
        rintro e w' ⟨rfl, hB⟩
        by_cases hc : charR (r : Int) = true
        · have hch : charX s.data.toList 16 6 = some (putR r) := by rw [HN.out, HF.out]; simp [hc]
          have HB := Lib.hid hch
          have HC := Lib.hid hc
          clear hch hc
          go_wp2_with fail
          refine (char_any _ _).mono ?_
          rintro e w'' ⟨rfl, rfl⟩
          rw [HC.out]
          go_wp2
          go_ret2
          exact ⟨by rw [HB.out]; rfl, hB⟩
        · have hch : charX s.data.toList 16 6 = none := by rw [HN.out, HF.out]; simp [hc]
          have HB := Lib.hid hch
          have HC := Lib.hid (show charR (r : Int) = false by simpa using hc)
          clear hch hc
          go_wp2_with fail
          refine (char_any _ _).mono ?_
          rintro e w'' ⟨rfl, rfl⟩
          rw [HC.out]
          go_wp2
          go_ret2
          exact ⟨by rw [HB.out]; exact ⟨_, rfl⟩, hB⟩

set_option maxRecDepth 20000 in
set_option maxHeartbeats 1600000 in
theorem xchar10 (s : ByteArray) (hs : s.size ≤ 9223372036854775807) (w : World) :
    Calls Tryz.prog 104 #[.string s, .int .i64 10, .int .i64 7] w fun e w' => CharE (charX s.data.toList 10 7) e ∧ Below w.heap.size w w' := by
  have hls : s.data.toList.length = s.size := by simp
  by_cases h1 : s.size < 1
  · have H := Lib.hid (charX_len0 (b := 10) (m := 7) (l := s.data.toList) (.inl (by omega)))
    clear hls
    go_enter Tryz.func104, Tryz.ntmps104
    go_wp2
    go_ret2
    exact ⟨by rw [H.out]; exact ⟨_, rfl⟩, Below.refl _ _⟩
  by_cases h2 : 7 < s.size
  · have H := Lib.hid (charX_len0 (b := 10) (m := 7) (l := s.data.toList) (.inr (by omega)))
    clear hls
    go_enter Tryz.func104, Tryz.ntmps104
    go_wp2
    go_ret2
    exact ⟨by rw [H.out]; exact ⟨_, rfl⟩, Below.refl _ _⟩
  have hN := charX_num (b := 10) (m := 7) (l := s.data.toList) (by omega)
  have HN := Lib.hid hN
  clear hN hls
  go_enter Tryz.func104, Tryz.ntmps104
  go_wp2
  go_loop [8, 24] (fun v p => ∃ (k r : Nat), k ≤ s.size ∧ v = .int .i64 r ∧ p = .int .i64 k ∧ r < 10 ^ k ∧ numX 10 s.data.toList 0 = numX 10 (s.data.toList.drop k) r)
      (fun v p => s.size - (intOf p).toNat)
  case atStart => exact ⟨0, 0, by omega, rfl, rfl, by decide, by simp⟩
  case round =>
    obtain ⟨k, r, hk, rfl, rfl, hr, h⟩ := hrel
    have hr7 : r < 10000001 := Nat.lt_of_lt_of_le hr (Nat.le_trans (Nat.pow_le_pow_right (by decide) (show k ≤ 7 by omega)) (by decide))
    have HR := Lib.hid hr
    have H := Lib.hid h
    clear h hr
    by_cases hlt : k < s.size
    · have HD := Lib.hid (drop_cons s k hlt)
      obtain ⟨d, hd⟩ : ∃ d, digitX (s[k]).toNat = d := ⟨_, rfl⟩
      have hd16 : d ≤ 16 := by rw [← hd]; exact digitX_le _
      have HG := Lib.hid hd
      clear hd
      by_cases hb : 10 ≤ d
      · have hbad : charX s.data.toList 10 7 = none := by rw [HN.out, H.out, HD.out, numX, if_pos (by rw [HG.out]; exact hb)]; rfl
        have HB := Lib.hid hbad
        clear hbad
        go_wp2_with fail
        refine (digit_any _ _).mono ?_
        rintro e w' ⟨rfl, rfl⟩
        rw [HG.out]
        go_wp2
        go_ret2
        exact ⟨by rw [HB.out]; exact ⟨_, rfl⟩, Below.refl _ _⟩
      · go_wp2_with fail
        refine (digit_any _ _).mono ?_
        rintro e w' ⟨rfl, rfl⟩
        rw [HG.out]
        go_wp2
        go_round
        case rel =>
          refine ⟨k + 1, r * 10 + d, by omega, by go_num, by go_num, ?_, ?_⟩
          · have := HR.out
            rw [Nat.pow_succ]
            omega
          · rw [H.out, HD.out, numX, if_neg (by rw [HG.out]; exact hb), HG.out]
        case measure => simp [intOf]; omega
    · obtain rfl : k = s.size := by omega
      have hfin : numX 10 s.data.toList 0 = some r := by rw [H.out]; exact numX_end (by simp)
      have HF := Lib.hid hfin
      clear hfin
      by_cases hw : widthR (r : Int) = 0
      · have hch : charX s.data.toList 10 7 = none := by
          rw [HN.out, HF.out]
          have : ¬ charR (r : Int) = true := fun h => charR_width h hw
          simp [this]
        have HB := Lib.hid hch
        have HP := Lib.hid (put_bad r hw)
        clear hch hw
        go_wp2_with fail
        refine (HP.out _).mono ?_
        rintro e w' ⟨rfl, rfl⟩
        go_wp2
        go_ret2
        exact ⟨by rw [HB.out]; exact ⟨_, rfl⟩, Below.refl _ _⟩
      · have HP := Lib.hid (put_ok r hw)
        clear hw
        go_wp2_with fail
        refine (HP.out _).mono ?_
        rintro e w' ⟨rfl, hB⟩
        by_cases hc : charR (r : Int) = true
        · have hch : charX s.data.toList 10 7 = some (putR r) := by rw [HN.out, HF.out]; simp [hc]
          have HB := Lib.hid hch
          have HC := Lib.hid hc
          clear hch hc
          go_wp2_with fail
          refine (char_any _ _).mono ?_
          rintro e w'' ⟨rfl, rfl⟩
          rw [HC.out]
          go_wp2
          go_ret2
          exact ⟨by rw [HB.out]; rfl, hB⟩
        · have hch : charX s.data.toList 10 7 = none := by rw [HN.out, HF.out]; simp [hc]
          have HB := Lib.hid hch
          have HC := Lib.hid (show charR (r : Int) = false by simpa using hc)
          clear hch hc
          go_wp2_with fail
          refine (char_any _ _).mono ?_
          rintro e w'' ⟨rfl, rfl⟩
          rw [HC.out]
          go_wp2
          go_ret2
          exact ⟨by rw [HB.out]; exact ⟨_, rfl⟩, hB⟩
end Go.Proofs.YtlldpmjnledhgaaGreatDoor
namespace Go.Proofs.YtlldpmjnledhgaaGreatDoor
open Go.RowKit
set_option linter.unusedVariables false

theorem str_ne {s : ByteArray} {l : List UInt8} (h : ¬ s.data.toList = l) : (s.toList == l) = false := by
  rw [ByteArray.toList_eq]
  exact beq_eq_false_iff_ne.2 h
theorem str_of {s : ByteArray} {l : List UInt8} (h : s.data.toList = l) : s = ⟨l.toArray⟩ := by
  obtain ⟨⟨k⟩⟩ := s
  simp at h
  rw [h]
theorem meantX_no {l : List UInt8} (h1 : ¬ l = [108, 116]) (h2 : ¬ l = [103, 116]) (h3 : ¬ l = [97, 109, 112]) (h4 : ¬ l = [97, 112, 111, 115]) (h5 : ¬ l = [113, 117, 111, 116]) :
    meantX l = if Lib.hasPrefix l [35, 120] then charX (l.drop 2) 16 6 else if Lib.hasPrefix l [35] then charX (l.drop 1) 10 7 else none := by
  unfold meantX
  rw [if_neg h1, if_neg h2, if_neg h3, if_neg h4, if_neg h5]

set_option maxRecDepth 20000 in
set_option maxHeartbeats 1600000 in
theorem meant_any (s : ByteArray) (hs : s.size ≤ 9223372036854775807) (w : World) :
    Calls Tryz.prog 89 #[.string s] w fun e w' => CharE (meantX s.data.toList) e ∧ Below w.heap.size w w' := by
  by_cases h1 : s.data.toList = [108, 116]
  · obtain rfl := str_of h1
    go_enter Tryz.func89, Tryz.ntmps89
    go_wp2
    go_ret2
    exact ⟨rfl, Below.refl _ _⟩
  by_cases h2 : s.data.toList = [103, 116]
  · obtain rfl := str_of h2
    clear h1
    go_enter Tryz.func89, Tryz.ntmps89
    go_wp2
    go_ret2
    exact ⟨rfl, Below.refl _ _⟩
  by_cases h3 : s.data.toList = [97, 109, 112]
  · obtain rfl := str_of h3
    clear h1 h2
    go_enter Tryz.func89, Tryz.ntmps89
    go_wp2
    go_ret2
    exact ⟨rfl, Below.refl _ _⟩
  by_cases h4 : s.data.toList = [97, 112, 111, 115]
  · obtain rfl := str_of h4
    clear h1 h2 h3
    go_enter Tryz.func89, Tryz.ntmps89
    go_wp2
    go_ret2
    exact ⟨rfl, Below.refl _ _⟩
  by_cases h5 : s.data.toList = [113, 117, 111, 116]
  · obtain rfl := str_of h5
    clear h1 h2 h3 h4
    go_enter Tryz.func89, Tryz.ntmps89
    go_wp2
    go_ret2
    exact ⟨rfl, Below.refl _ _⟩
  have HM := Lib.hid (meantX_no h1 h2 h3 h4 h5)
  have n1 := str_ne h1
  have n2 := str_ne h2
  have n3 := str_ne h3
  have n4 := str_ne h4
  have n5 := str_ne h5
  clear h1 h2 h3 h4 h5
  by_cases h6 : Lib.hasPrefix s.data.toList [35, 120] = true
  · have HM6 := Lib.hid (show meantX s.data.toList = charX (s.data.toList.drop 2) 16 6 by rw [HM.out, if_pos h6])
    have HP := Lib.hid h6
    have HT := Lib.hid (show Lib.trimPrefix s.data.toList [35, 120] = s.data.toList.drop 2 by unfold Lib.trimPrefix; rw [if_pos h6]; rfl)
    clear h6 HM
    go_enter Tryz.func89, Tryz.ntmps89
    go_wp2_with fail
    refine (Tryz.strings_CutPrefix _ _ _).mono ?_
    rintro e w' ⟨rfl, rfl⟩
    rw [HP.out, HT.out]
    go_wp2_with fail
    refine (xchar16 _ (by rw [size_mk]; simp; omega) _).mono ?_
    rintro e w1 ⟨he, hB⟩
    obtain ⟨o, ho⟩ : ∃ o, meantX s.data.toList = o := ⟨_, rfl⟩
    rw [show (⟨(s.data.toList.drop 2).toArray⟩ : ByteArray).data.toList = s.data.toList.drop 2 from rfl, ← HM6.out, ho] at he
    have HO := Lib.hid ho
    clear HM6 HP HT ho
    cases o with
    | none =>
      obtain ⟨t, rfl⟩ := he
      go_wp2
      go_ret2
      exact ⟨by rw [HO.out]; exact ⟨_, rfl⟩, hB⟩
    | some t =>
      obtain rfl := he
      go_wp2
      go_ret2
      exact ⟨by rw [HO.out]; rfl, hB⟩
  · by_cases h7 : Lib.hasPrefix s.data.toList [35] = true
    · have HM7 := Lib.hid (show meantX s.data.toList = charX (s.data.toList.drop 1) 10 7 by rw [HM.out, if_neg h6, if_pos h7])
      have HP6 := Lib.hid (show Lib.hasPrefix s.data.toList [35, 120] = false by simpa using h6)
      have HP := Lib.hid h7
      have HT := Lib.hid (show Lib.trimPrefix s.data.toList [35] = s.data.toList.drop 1 by unfold Lib.trimPrefix; rw [if_pos h7]; rfl)
      clear h6 h7 HM
      go_enter Tryz.func89, Tryz.ntmps89
      go_wp2_with fail
      refine (Tryz.strings_CutPrefix _ _ _).mono ?_
      rintro e w' ⟨rfl, rfl⟩
      rw [HP6.out]
      go_wp2_with fail
      refine (Tryz.strings_CutPrefix _ _ _).mono ?_
      rintro e w' ⟨rfl, rfl⟩
      rw [HP.out, HT.out]
      go_wp2_with fail
      refine (xchar10 _ (by rw [size_mk]; simp; omega) _).mono ?_
      rintro e w1 ⟨he, hB⟩
      obtain ⟨o, ho⟩ : ∃ o, meantX s.data.toList = o := ⟨_, rfl⟩
      rw [show (⟨s.data.toList.tail.toArray⟩ : ByteArray).data.toList = s.data.toList.drop 1 from by simp, ← HM7.out, ho] at he
      have HO := Lib.hid ho
      clear HM7 HP HT HP6 ho
      cases o with
      | none =>
        obtain ⟨t, rfl⟩ := he
        go_wp2
        go_ret2
        exact ⟨by rw [HO.out]; exact ⟨_, rfl⟩, hB⟩
      | some t =>
        obtain rfl := he
        go_wp2
        go_ret2
        exact ⟨by rw [HO.out]; rfl, hB⟩
    · have HM7 := Lib.hid (show meantX s.data.toList = none by rw [HM.out, if_neg h6, if_neg h7])
      have HP6 := Lib.hid (show Lib.hasPrefix s.data.toList [35, 120] = false by simpa using h6)
      have HP := Lib.hid (show Lib.hasPrefix s.data.toList [35] = false by simpa using h7)
      clear h6 h7 HM
      go_enter Tryz.func89, Tryz.ntmps89
      go_wp2_with fail
      refine (Tryz.strings_CutPrefix _ _ _).mono ?_
      rintro e w' ⟨rfl, rfl⟩
      rw [HP6.out]
      go_wp2_with fail
      refine (Tryz.strings_CutPrefix _ _ _).mono ?_
      rintro e w' ⟨rfl, rfl⟩
      rw [HP.out]
      go_wp2
      go_ret2
      exact ⟨by rw [HM7.out]; exact ⟨_, rfl⟩, Below.refl _ _⟩

/-- What a reference at the front comes to. -/
def RefE (o : Option (List UInt8 × Nat)) (e : Ending) : Prop :=
  match o with
  | none => ∃ t n, e = .returned (.tuple #[.string t, .int .i64 n, .bool false])
  | some (t, n) => e = .returned (.tuple #[.string ⟨t.toArray⟩, .int .i64 n, .bool true])
set_option maxRecDepth 20000 in
set_option maxHeartbeats 1600000 in
theorem reference_any (s : ByteArray) (hs : s.size ≤ 9223372036854775806) (h0 : s.data.toList[0]? = some 38) (w : World) :
    Calls Tryz.prog 72 #[.string s] w fun e w' => RefE (refX s.data.toList) e ∧ Below w.heap.size w w' := by
  have hls : s.data.toList.length = s.size := by simp
  rcases indexByte_bd s.data.toList 59 with h1 | ⟨k, h1, h2, h3⟩
  · have HR := Lib.hid (show refX s.data.toList = none by unfold refX; rw [h1]; rfl)
    have HI := Lib.hid h1
    clear h1 hls h0
    go_enter Tryz.func72, Tryz.ntmps72
    go_wp2_with fail
    refine (Tryz.strings_IndexByte _ _ _).mono ?_
    rintro e w' ⟨rfl, rfl⟩
    rw [show ((59 : Int).toNat.toUInt8) = 59 from rfl, HI.out]
    go_wp2
    go_ret3
    exact ⟨by rw [HR.out]; exact ⟨_, _, rfl⟩, Below.refl _ _⟩
  · have hk : 1 ≤ k := by
      rcases Nat.eq_zero_or_pos k with rfl | h
      · rw [h0] at h3; cases h3
      · exact h
    have HI := Lib.hid h1
    have hex : (s.extract 1 k).data.toList = (s.data.toList.drop 1).take (k - 1) := extract_list s 1 k
    have HR := Lib.hid (show refX s.data.toList = (meantX (s.extract 1 k).data.toList).map fun t => (t, k + 1) by
      unfold refX; rw [h1, if_neg (by omega), hex]; rfl)
    have hks : k < s.size := by omega
    clear h1 h2 h3 hls hex h0
    go_enter Tryz.func72, Tryz.ntmps72
    go_wp2_with fail
    refine (Tryz.strings_IndexByte _ _ _).mono ?_
    rintro e w' ⟨rfl, rfl⟩
    rw [show ((59 : Int).toNat.toUInt8) = 59 from rfl, HI.out]
    go_wp2_with fail
    refine (meant_any _ (by simp; omega) _).mono ?_
    rintro e w1 ⟨he, hB⟩
    have HB := Lib.hid hB
    obtain ⟨o, ho⟩ : ∃ o, meantX (s.extract 1 k).data.toList = o := ⟨_, rfl⟩
    rw [ho] at he
    have HO := Lib.hid ho
    clear ho
    cases o with
    | none =>
      obtain ⟨t, rfl⟩ := he
      go_wp2
      go_ret3
      exact ⟨by rw [HR.out, HO.out]; exact ⟨_, _, rfl⟩, hB⟩
    | some t =>
      obtain rfl := he
      go_wp2
      go_ret3
      exact ⟨by rw [HR.out, HO.out]; rfl, hB⟩
end Go.Proofs.YtlldpmjnledhgaaGreatDoor
