/- The walks of xtok's references. -/
import Derived.Test.YtmhhkekokfpppaaDoorXkC
namespace Go.Proofs.YtmhhkekokfpppaaDoor
open Go.RowKit
set_option linter.unusedVariables false

theorem str_ne {s : ByteArray} {l : List UInt8} (h : ¬ s.data.toList = l) : (s.toList == l) = false := by
  rw [ByteArray.toList_eq]
  exact beq_eq_false_iff_ne.2 h
theorem str_of {s : ByteArray} {l : List UInt8} (h : s.data.toList = l) : s = ⟨l.toArray⟩ := by
  obtain ⟨⟨k⟩⟩ := s
  simp at h
  rw [h]
theorem meantX_no {l : List UInt8} (h1 : ¬ l = [108, 116]) (h2 : ¬ l = [103, 116]) (h3 : ¬ l = [97, 109, 112]) (h4 : ¬ l = [97, 112, 111, 115]) (h5 : ¬ l = [113, 117, 111, 116]) :
    meantX l = if Lib.hasPrefix l [35, 120] then charX (l.drop 2) 16 6 else if Lib.hasPrefix l [35] then charX (l.drop 1) 10 7 else none := by
  unfold meantX
  rw [if_neg h1, if_neg h2, if_neg h3, if_neg h4, if_neg h5]

set_option maxRecDepth 20000 in
set_option maxHeartbeats 1600000 in
theorem meant_any (s : ByteArray) (hs : s.size ≤ 9223372036854775807) (w : World) :
    Calls Tryd.prog 59 #[.string s] w fun e w' => CharE (meantX s.data.toList) e ∧ Below w.heap.size w w' := by
  by_cases h1 : s.data.toList = [108, 116]
  · obtain rfl := str_of h1
    go_enter Tryd.func59, Tryd.ntmps59
    go_wp2
    go_ret2
    exact ⟨rfl, Below.refl _ _⟩
  by_cases h2 : s.data.toList = [103, 116]
  · obtain rfl := str_of h2
    clear h1
    go_enter Tryd.func59, Tryd.ntmps59
    go_wp2
    go_ret2
    exact ⟨rfl, Below.refl _ _⟩
  by_cases h3 : s.data.toList = [97, 109, 112]
  · obtain rfl := str_of h3
    clear h1 h2
    go_enter Tryd.func59, Tryd.ntmps59
    go_wp2
    go_ret2
    exact ⟨rfl, Below.refl _ _⟩
  by_cases h4 : s.data.toList = [97, 112, 111, 115]
  · obtain rfl := str_of h4
    clear h1 h2 h3
    go_enter Tryd.func59, Tryd.ntmps59
    go_wp2
    go_ret2
    exact ⟨rfl, Below.refl _ _⟩
  by_cases h5 : s.data.toList = [113, 117, 111, 116]
  · obtain rfl := str_of h5
    clear h1 h2 h3 h4
    go_enter Tryd.func59, Tryd.ntmps59
    go_wp2
    go_ret2
    exact ⟨rfl, Below.refl _ _⟩
  have HM := Lib.hid (meantX_no h1 h2 h3 h4 h5)
  have n1 := str_ne h1
  have n2 := str_ne h2
  have n3 := str_ne h3
  have n4 := str_ne h4
  have n5 := str_ne h5
  clear h1 h2 h3 h4 h5
  by_cases h6 : Lib.hasPrefix s.data.toList [35, 120] = true
  · have HM6 := Lib.hid (show meantX s.data.toList = charX (s.data.toList.drop 2) 16 6 by rw [HM.out, if_pos h6])
    have HP := Lib.hid h6
    have HT := Lib.hid (show Lib.trimPrefix s.data.toList [35, 120] = s.data.toList.drop 2 by unfold Lib.trimPrefix; rw [if_pos h6]; rfl)
    clear h6 HM
    go_enter Tryd.func59, Tryd.ntmps59
    go_wp2_with fail
    refine (Tryd.strings_CutPrefix _ _ _).mono ?_
    rintro e w' ⟨rfl, rfl⟩
    rw [HP.out, HT.out]
    go_wp2_with fail
    refine (xchar16 _ (by rw [size_mk]; simp; omega) _).mono ?_
    rintro e w1 ⟨he, hB⟩
    obtain ⟨o, ho⟩ : ∃ o, meantX s.data.toList = o := ⟨_, rfl⟩
    rw [show (⟨(s.data.toList.drop 2).toArray⟩ : ByteArray).data.toList = s.data.toList.drop 2 from rfl, ← HM6.out, ho] at he
    have HO := Lib.hid ho
    clear HM6 HP HT ho
    cases o with
    | none =>
      obtain ⟨t, rfl⟩ := he
      go_wp2
      go_ret2
      exact ⟨by rw [HO.out]; exact ⟨_, rfl⟩, hB⟩
    | some t =>
      obtain rfl := he
      go_wp2
      go_ret2
      exact ⟨by rw [HO.out]; rfl, hB⟩
  · by_cases h7 : Lib.hasPrefix s.data.toList [35] = true
    · have HM7 := Lib.hid (show meantX s.data.toList = charX (s.data.toList.drop 1) 10 7 by rw [HM.out, if_neg h6, if_pos h7])
      have HP6 := Lib.hid (show Lib.hasPrefix s.data.toList [35, 120] = false by simpa using h6)
      have HP := Lib.hid h7
      have HT := Lib.hid (show Lib.trimPrefix s.data.toList [35] = s.data.toList.drop 1 by unfold Lib.trimPrefix; rw [if_pos h7]; rfl)
      clear h6 h7 HM
      go_enter Tryd.func59, Tryd.ntmps59
      go_wp2_with fail
      refine (Tryd.strings_CutPrefix _ _ _).mono ?_
      rintro e w' ⟨rfl, rfl⟩
      rw [HP6.out]
      go_wp2_with fail
      refine (Tryd.strings_CutPrefix _ _ _).mono ?_
      rintro e w' ⟨rfl, rfl⟩
      rw [HP.out, HT.out]
      go_wp2_with fail
      refine (xchar10 _ (by rw [size_mk]; simp; omega) _).mono ?_
      rintro e w1 ⟨he, hB⟩
      obtain ⟨o, ho⟩ : ∃ o, meantX s.data.toList = o := ⟨_, rfl⟩
      rw [show (⟨s.data.toList.tail.toArray⟩ : ByteArray).data.toList = s.data.toList.drop 1 from by simp, ← HM7.out, ho] at he
      have HO := Lib.hid ho
      clear HM7 HP HT HP6 ho
      cases o with
      | none =>
        obtain ⟨t, rfl⟩ := he
        go_wp2
        go_ret2
        exact ⟨by rw [HO.out]; exact ⟨_, rfl⟩, hB⟩
      | some t =>
        obtain rfl := he
        go_wp2
        go_ret2
        exact ⟨by rw [HO.out]; rfl, hB⟩
    · have HM7 := Lib.hid (show meantX s.data.toList = none by rw [HM.out, if_neg h6, if_neg h7])
      have HP6 := Lib.hid (show Lib.hasPrefix s.data.toList [35, 120] = false by simpa using h6)
      have HP := Lib.hid (show Lib.hasPrefix s.data.toList [35] = false by simpa using h7)
      clear h6 h7 HM
      go_enter Tryd.func59, Tryd.ntmps59
      go_wp2_with fail
      refine (Tryd.strings_CutPrefix _ _ _).mono ?_
      rintro e w' ⟨rfl, rfl⟩
      rw [HP6.out]
      go_wp2_with fail
      refine (Tryd.strings_CutPrefix _ _ _).mono ?_
      rintro e w' ⟨rfl, rfl⟩
      rw [HP.out]
      go_wp2
      go_ret2
      exact ⟨by rw [HM7.out]; exact ⟨_, rfl⟩, Below.refl _ _⟩

/-- What a reference at the front comes to. -/
def RefE (o : Option (List UInt8 × Nat)) (e : Ending) : Prop :=
  match o with
  | none => ∃ t n, e = .returned (.tuple #[.string t, .int .i64 n, .bool false])
  | some (t, n) => e = .returned (.tuple #[.string ⟨t.toArray⟩, .int .i64 n, .bool true])
set_option maxRecDepth 20000 in
set_option maxHeartbeats 1600000 in
theorem reference_any (s : ByteArray) (hs : s.size ≤ 9223372036854775806) (h0 : s.data.toList[0]? = some 38) (w : World) :
    Calls Tryd.prog 43 #[.string s] w fun e w' => RefE (refX s.data.toList) e ∧ Below w.heap.size w w' := by
  have hls : s.data.toList.length = s.size := by simp
  rcases indexByte_bd s.data.toList 59 with h1 | ⟨k, h1, h2, h3⟩
  · have HR := Lib.hid (show refX s.data.toList = none by unfold refX; rw [h1]; rfl)
    have HI := Lib.hid h1
    clear h1 hls h0
    go_enter Tryd.func43, Tryd.ntmps43
    go_wp2_with fail
    refine (Tryd.strings_IndexByte _ _ _).mono ?_
    rintro e w' ⟨rfl, rfl⟩
    rw [show ((59 : Int).toNat.toUInt8) = 59 from rfl, HI.out]
    go_wp2
    go_ret3
    exact ⟨by rw [HR.out]; exact ⟨_, _, rfl⟩, Below.refl _ _⟩
  · have hk : 1 ≤ k := by
      rcases Nat.eq_zero_or_pos k with rfl | h
      · rw [h0] at h3; cases h3
      · exact h
    have HI := Lib.hid h1
    have hex : (s.extract 1 k).data.toList = (s.data.toList.drop 1).take (k - 1) := extract_list s 1 k
    have HR := Lib.hid (show refX s.data.toList = (meantX (s.extract 1 k).data.toList).map fun t => (t, k + 1) by
      unfold refX; rw [h1, if_neg (by omega), hex]; rfl)
    have hks : k < s.size := by omega
    clear h1 h2 h3 hls hex h0
    go_enter Tryd.func43, Tryd.ntmps43
    go_wp2_with fail
    refine (Tryd.strings_IndexByte _ _ _).mono ?_
    rintro e w' ⟨rfl, rfl⟩
    rw [show ((59 : Int).toNat.toUInt8) = 59 from rfl, HI.out]
    go_wp2_with fail
    refine (meant_any _ (by simp; omega) _).mono ?_
    rintro e w1 ⟨he, hB⟩
    have HB := Lib.hid hB
    obtain ⟨o, ho⟩ : ∃ o, meantX (s.extract 1 k).data.toList = o := ⟨_, rfl⟩
    rw [ho] at he
    have HO := Lib.hid ho
    clear ho
    cases o with
    | none =>
      obtain ⟨t, rfl⟩ := he
      go_wp2
      go_ret3
      exact ⟨by rw [HR.out, HO.out]; exact ⟨_, _, rfl⟩, hB⟩
    | some t =>
      obtain rfl := he
      go_wp2
      go_ret3
      exact ⟨by rw [HR.out, HO.out]; rfl, hB⟩
end Go.Proofs.YtmhhkekokfpppaaDoor
