/- The walk of xtok.Escape. -/
import Derived.Test.YtajnpmhgldfgfaaXkVb
import Derived.Test.YtajnpmhgldfgfaaXkEv
import Derived.Test.YtajnpmhgldfgfaaPbA
namespace Go.Proofs.Ytajnpmhgldfgfaa
open Go.RowKit
set_option linter.unusedVariables false

/-- The loop of Escape. -/
def EscL (s : ByteArray) (q : Bool) (w : World) (p : Value) (W : World) : Prop :=
  ∃ k acc, p = .int .i64 (k : Nat) ∧ k ≤ s.size ∧ acc ++ escX q (s.data.toList.drop k) = escX q s.data.toList ∧ acc.length ≤ 6 * k ∧ IsB w.heap.size w.heap.size acc W ∧ Below w.heap.size (w.alloc bld0) W

set_option maxRecDepth 100000 in
set_option maxHeartbeats 16000000 in
theorem escape_any (s : ByteArray) (hs : s.size ≤ 1000000) (q : Bool) (w : World) :
    Calls Try.prog 35 #[.string s, .bool q] w fun e w' => e = .returned (.string ⟨(escX q s.data.toList).toArray⟩) ∧ Below w.heap.size w w' := by
  have H0 := Lib.hid (show EscL s q w (.int .i64 0) (w.alloc bld0) from ⟨0, [], rfl, by omega, by simp, by simp, IsB.new w, Below.refl _ _⟩)
  cases q with
  | false =>
    go_enter Try.func35, Try.ntmps35
    go_wp2
    go_loopw [10] (fun x W => EscL s false w x W) (fun x W => s.size - (intOf x).toNat)
    case atStart => exact H0.out
    case round =>
      obtain ⟨k, acc, rfl, hk, hacc, hl, hB, hW⟩ := hrel
      have HW := Lib.hid hW
      have HB := Lib.hid hB
      have hsz := hW.size
      simp only [World.size_alloc] at hsz
      clear hW hB
      by_cases hlt : k < s.size
      · rw [drop_cons s k hlt, escX_cons, ← List.append_assoc] at hacc
        by_cases h38 : s[k] = 38
        · have he : escB false s[k] = [38, 97, 109, 112, 59] := by rw [h38]; rfl
          have E38 : ((s[k].toNat : Int) == 38) = true := beq_yes h38
          clear h38
          have HV := Lib.hid hacc
          have hel := escB_len false s[k]
          rw [he] at HV hel
          clear hacc he
          go_wp2_with (go_at_call 21; refine (writeString0 _ _ acc _ _ HB.out (by show acc.length + 5 ≤ _; omega) (by omega)).mono ?_; rintro e w5 ⟨rfl, hB5, hW5⟩; have HB5 := Lib.hid hB5; have HW5 := Lib.hid (HW.out.trans hW5))
          go_roundw
          case rel => exact ⟨k + 1, acc ++ [38, 97, 109, 112, 59], by go_num, by omega, HV.out, by simp; omega, HB5.out, HW5.out⟩
          case measure => simp [intOf]; omega
        by_cases h60 : s[k] = 60
        · have he : escB false s[k] = [38, 108, 116, 59] := by rw [h60]; rfl
          have E60 : ((s[k].toNat : Int) == 60) = true := beq_yes h60
          have E38 : ((s[k].toNat : Int) == 38) = false := beq_no h38
          clear h60 h38
          have HV := Lib.hid hacc
          have hel := escB_len false s[k]
          rw [he] at HV hel
          clear hacc he
          go_wp2_with (go_at_call 21; refine (writeString0 _ _ acc _ _ HB.out (by show acc.length + 4 ≤ _; omega) (by omega)).mono ?_; rintro e w5 ⟨rfl, hB5, hW5⟩; have HB5 := Lib.hid hB5; have HW5 := Lib.hid (HW.out.trans hW5))
          go_roundw
          case rel => exact ⟨k + 1, acc ++ [38, 108, 116, 59], by go_num, by omega, HV.out, by simp; omega, HB5.out, HW5.out⟩
          case measure => simp [intOf]; omega
        by_cases h62 : s[k] = 62
        · have he : escB false s[k] = [38, 103, 116, 59] := by rw [h62]; rfl
          have E62 : ((s[k].toNat : Int) == 62) = true := beq_yes h62
          have E38 : ((s[k].toNat : Int) == 38) = false := beq_no h38
          have E60 : ((s[k].toNat : Int) == 60) = false := beq_no h60
          clear h62 h38 h60
          have HV := Lib.hid hacc
          have hel := escB_len false s[k]
          rw [he] at HV hel
          clear hacc he
          go_wp2_with (go_at_call 21; refine (writeString0 _ _ acc _ _ HB.out (by show acc.length + 4 ≤ _; omega) (by omega)).mono ?_; rintro e w5 ⟨rfl, hB5, hW5⟩; have HB5 := Lib.hid hB5; have HW5 := Lib.hid (HW.out.trans hW5))
          go_roundw
          case rel => exact ⟨k + 1, acc ++ [38, 103, 116, 59], by go_num, by omega, HV.out, by simp; omega, HB5.out, HW5.out⟩
          case measure => simp [intOf]; omega
        by_cases h13 : s[k] = 13
        · have he : escB false s[k] = [38, 35, 49, 51, 59] := by rw [h13]; rfl
          have E13 : ((s[k].toNat : Int) == 13) = true := beq_yes h13
          have E38 : ((s[k].toNat : Int) == 38) = false := beq_no h38
          have E60 : ((s[k].toNat : Int) == 60) = false := beq_no h60
          have E62 : ((s[k].toNat : Int) == 62) = false := beq_no h62
          clear h13 h38 h60 h62
          have HV := Lib.hid hacc
          have hel := escB_len false s[k]
          rw [he] at HV hel
          clear hacc he
          go_wp2_with (go_at_call 21; refine (writeString0 _ _ acc _ _ HB.out (by show acc.length + 5 ≤ _; omega) (by omega)).mono ?_; rintro e w5 ⟨rfl, hB5, hW5⟩; have HB5 := Lib.hid hB5; have HW5 := Lib.hid (HW.out.trans hW5))
          go_roundw
          case rel => exact ⟨k + 1, acc ++ [38, 35, 49, 51, 59], by go_num, by omega, HV.out, by simp; omega, HB5.out, HW5.out⟩
          case measure => simp [intOf]; omega
        have he : escB false s[k] = [s[k]] := by unfold escB; simp [h38, h60, h62, h13]
        have E38 : ((s[k].toNat : Int) == 38) = false := beq_no h38
        have E60 : ((s[k].toNat : Int) == 60) = false := beq_no h60
        have E62 : ((s[k].toNat : Int) == 62) = false := beq_no h62
        have E13 : ((s[k].toNat : Int) == 13) = false := beq_no h13
        clear h38 h60 h62 h13
        have HV := Lib.hid hacc
        have hel := escB_len false s[k]
        rw [he] at HV hel
        clear hacc he
        go_wp2_with (go_at_call 47; refine (writeByte0 _ _ acc (s[k]) _ HB.out (by omega) (by omega)).mono ?_; rintro e w5 ⟨rfl, hB5, hW5⟩; have HB5 := Lib.hid hB5; have HW5 := Lib.hid (HW.out.trans hW5))
        go_roundw
        case rel => exact ⟨k + 1, acc ++ [s[k]], by go_num, by omega, HV.out, by simp; omega, HB5.out, HW5.out⟩
        case measure => simp [intOf]; omega
      · obtain rfl : k = s.size := by omega
        rw [drop_end s _ (Nat.le_refl _), show escX false [] = [] from rfl, List.append_nil] at hacc
        have HV := Lib.hid hacc
        clear hacc
        go_wp2_with (go_at_call 25; refine (Try.Builder_String_any _ _ acc _ HB.out (by omega)).mono ?_; rintro e w1 ⟨rfl, hB1⟩; have HW1 := Lib.hid (HW.out.trans hB1))
        go_ret
        exact ⟨by rw [← HV.out]; rfl, ((Below.refl _ w).alloc (Nat.le_refl _) _).trans HW1.out⟩
  | true =>
    go_enter Try.func35, Try.ntmps35
    go_wp2
    go_loopw [10] (fun x W => EscL s true w x W) (fun x W => s.size - (intOf x).toNat)
    case atStart => exact H0.out
    case round =>
      obtain ⟨k, acc, rfl, hk, hacc, hl, hB, hW⟩ := hrel
      have HW := Lib.hid hW
      have HB := Lib.hid hB
      have hsz := hW.size
      simp only [World.size_alloc] at hsz
      clear hW hB
      by_cases hlt : k < s.size
      · rw [drop_cons s k hlt, escX_cons, ← List.append_assoc] at hacc
        by_cases h38 : s[k] = 38
        · have he : escB true s[k] = [38, 97, 109, 112, 59] := by rw [h38]; rfl
          have E38 : ((s[k].toNat : Int) == 38) = true := beq_yes h38
          clear h38
          have HV := Lib.hid hacc
          have hel := escB_len true s[k]
          rw [he] at HV hel
          clear hacc he
          go_wp2_with (go_at_call 21; refine (writeString0 _ _ acc _ _ HB.out (by show acc.length + 5 ≤ _; omega) (by omega)).mono ?_; rintro e w5 ⟨rfl, hB5, hW5⟩; have HB5 := Lib.hid hB5; have HW5 := Lib.hid (HW.out.trans hW5))
          go_roundw
          case rel => exact ⟨k + 1, acc ++ [38, 97, 109, 112, 59], by go_num, by omega, HV.out, by simp; omega, HB5.out, HW5.out⟩
          case measure => simp [intOf]; omega
        by_cases h60 : s[k] = 60
        · have he : escB true s[k] = [38, 108, 116, 59] := by rw [h60]; rfl
          have E60 : ((s[k].toNat : Int) == 60) = true := beq_yes h60
          have E38 : ((s[k].toNat : Int) == 38) = false := beq_no h38
          clear h60 h38
          have HV := Lib.hid hacc
          have hel := escB_len true s[k]
          rw [he] at HV hel
          clear hacc he
          go_wp2_with (go_at_call 21; refine (writeString0 _ _ acc _ _ HB.out (by show acc.length + 4 ≤ _; omega) (by omega)).mono ?_; rintro e w5 ⟨rfl, hB5, hW5⟩; have HB5 := Lib.hid hB5; have HW5 := Lib.hid (HW.out.trans hW5))
          go_roundw
          case rel => exact ⟨k + 1, acc ++ [38, 108, 116, 59], by go_num, by omega, HV.out, by simp; omega, HB5.out, HW5.out⟩
          case measure => simp [intOf]; omega
        by_cases h62 : s[k] = 62
        · have he : escB true s[k] = [38, 103, 116, 59] := by rw [h62]; rfl
          have E62 : ((s[k].toNat : Int) == 62) = true := beq_yes h62
          have E38 : ((s[k].toNat : Int) == 38) = false := beq_no h38
          have E60 : ((s[k].toNat : Int) == 60) = false := beq_no h60
          clear h62 h38 h60
          have HV := Lib.hid hacc
          have hel := escB_len true s[k]
          rw [he] at HV hel
          clear hacc he
          go_wp2_with (go_at_call 21; refine (writeString0 _ _ acc _ _ HB.out (by show acc.length + 4 ≤ _; omega) (by omega)).mono ?_; rintro e w5 ⟨rfl, hB5, hW5⟩; have HB5 := Lib.hid hB5; have HW5 := Lib.hid (HW.out.trans hW5))
          go_roundw
          case rel => exact ⟨k + 1, acc ++ [38, 103, 116, 59], by go_num, by omega, HV.out, by simp; omega, HB5.out, HW5.out⟩
          case measure => simp [intOf]; omega
        by_cases h13 : s[k] = 13
        · have he : escB true s[k] = [38, 35, 49, 51, 59] := by rw [h13]; rfl
          have E13 : ((s[k].toNat : Int) == 13) = true := beq_yes h13
          have E38 : ((s[k].toNat : Int) == 38) = false := beq_no h38
          have E60 : ((s[k].toNat : Int) == 60) = false := beq_no h60
          have E62 : ((s[k].toNat : Int) == 62) = false := beq_no h62
          clear h13 h38 h60 h62
          have HV := Lib.hid hacc
          have hel := escB_len true s[k]
          rw [he] at HV hel
          clear hacc he
          go_wp2_with (go_at_call 21; refine (writeString0 _ _ acc _ _ HB.out (by show acc.length + 5 ≤ _; omega) (by omega)).mono ?_; rintro e w5 ⟨rfl, hB5, hW5⟩; have HB5 := Lib.hid hB5; have HW5 := Lib.hid (HW.out.trans hW5))
          go_roundw
          case rel => exact ⟨k + 1, acc ++ [38, 35, 49, 51, 59], by go_num, by omega, HV.out, by simp; omega, HB5.out, HW5.out⟩
          case measure => simp [intOf]; omega
        by_cases h34 : s[k] = 34
        · have he : escB true s[k] = [38, 113, 117, 111, 116, 59] := by rw [h34]; rfl
          have E34 : ((s[k].toNat : Int) == 34) = true := beq_yes h34
          have E38 : ((s[k].toNat : Int) == 38) = false := beq_no h38
          have E60 : ((s[k].toNat : Int) == 60) = false := beq_no h60
          have E62 : ((s[k].toNat : Int) == 62) = false := beq_no h62
          have E13 : ((s[k].toNat : Int) == 13) = false := beq_no h13
          clear h34 h38 h60 h62 h13
          have HV := Lib.hid hacc
          have hel := escB_len true s[k]
          rw [he] at HV hel
          clear hacc he
          go_wp2_with (go_at_call 21; refine (writeString0 _ _ acc _ _ HB.out (by show acc.length + 6 ≤ _; omega) (by omega)).mono ?_; rintro e w5 ⟨rfl, hB5, hW5⟩; have HB5 := Lib.hid hB5; have HW5 := Lib.hid (HW.out.trans hW5))
          go_roundw
          case rel => exact ⟨k + 1, acc ++ [38, 113, 117, 111, 116, 59], by go_num, by omega, HV.out, by simp; omega, HB5.out, HW5.out⟩
          case measure => simp [intOf]; omega
        by_cases h9 : s[k] = 9
        · have he : escB true s[k] = [38, 35, 57, 59] := by rw [h9]; rfl
          have E9 : ((s[k].toNat : Int) == 9) = true := beq_yes h9
          have E38 : ((s[k].toNat : Int) == 38) = false := beq_no h38
          have E60 : ((s[k].toNat : Int) == 60) = false := beq_no h60
          have E62 : ((s[k].toNat : Int) == 62) = false := beq_no h62
          have E13 : ((s[k].toNat : Int) == 13) = false := beq_no h13
          have E34 : ((s[k].toNat : Int) == 34) = false := beq_no h34
          clear h9 h38 h60 h62 h13 h34
          have HV := Lib.hid hacc
          have hel := escB_len true s[k]
          rw [he] at HV hel
          clear hacc he
          go_wp2_with (go_at_call 21; refine (writeString0 _ _ acc _ _ HB.out (by show acc.length + 4 ≤ _; omega) (by omega)).mono ?_; rintro e w5 ⟨rfl, hB5, hW5⟩; have HB5 := Lib.hid hB5; have HW5 := Lib.hid (HW.out.trans hW5))
          go_roundw
          case rel => exact ⟨k + 1, acc ++ [38, 35, 57, 59], by go_num, by omega, HV.out, by simp; omega, HB5.out, HW5.out⟩
          case measure => simp [intOf]; omega
        by_cases h10 : s[k] = 10
        · have he : escB true s[k] = [38, 35, 49, 48, 59] := by rw [h10]; rfl
          have E10 : ((s[k].toNat : Int) == 10) = true := beq_yes h10
          have E38 : ((s[k].toNat : Int) == 38) = false := beq_no h38
          have E60 : ((s[k].toNat : Int) == 60) = false := beq_no h60
          have E62 : ((s[k].toNat : Int) == 62) = false := beq_no h62
          have E13 : ((s[k].toNat : Int) == 13) = false := beq_no h13
          have E34 : ((s[k].toNat : Int) == 34) = false := beq_no h34
          have E9 : ((s[k].toNat : Int) == 9) = false := beq_no h9
          clear h10 h38 h60 h62 h13 h34 h9
          have HV := Lib.hid hacc
          have hel := escB_len true s[k]
          rw [he] at HV hel
          clear hacc he
          go_wp2_with (go_at_call 21; refine (writeString0 _ _ acc _ _ HB.out (by show acc.length + 5 ≤ _; omega) (by omega)).mono ?_; rintro e w5 ⟨rfl, hB5, hW5⟩; have HB5 := Lib.hid hB5; have HW5 := Lib.hid (HW.out.trans hW5))
          go_roundw
          case rel => exact ⟨k + 1, acc ++ [38, 35, 49, 48, 59], by go_num, by omega, HV.out, by simp; omega, HB5.out, HW5.out⟩
          case measure => simp [intOf]; omega
        have he : escB true s[k] = [s[k]] := by unfold escB; simp [h38, h60, h62, h13, h34, h9, h10]
        have E38 : ((s[k].toNat : Int) == 38) = false := beq_no h38
        have E60 : ((s[k].toNat : Int) == 60) = false := beq_no h60
        have E62 : ((s[k].toNat : Int) == 62) = false := beq_no h62
        have E13 : ((s[k].toNat : Int) == 13) = false := beq_no h13
        have E34 : ((s[k].toNat : Int) == 34) = false := beq_no h34
        have E9 : ((s[k].toNat : Int) == 9) = false := beq_no h9
        have E10 : ((s[k].toNat : Int) == 10) = false := beq_no h10
        clear h38 h60 h62 h13 h34 h9 h10
        have HV := Lib.hid hacc
        have hel := escB_len true s[k]
        rw [he] at HV hel
        clear hacc he
        go_wp2_with (go_at_call 47; refine (writeByte0 _ _ acc (s[k]) _ HB.out (by omega) (by omega)).mono ?_; rintro e w5 ⟨rfl, hB5, hW5⟩; have HB5 := Lib.hid hB5; have HW5 := Lib.hid (HW.out.trans hW5))
        go_roundw
        case rel => exact ⟨k + 1, acc ++ [s[k]], by go_num, by omega, HV.out, by simp; omega, HB5.out, HW5.out⟩
        case measure => simp [intOf]; omega
      · obtain rfl : k = s.size := by omega
        rw [drop_end s _ (Nat.le_refl _), show escX true [] = [] from rfl, List.append_nil] at hacc
        have HV := Lib.hid hacc
        clear hacc
        go_wp2_with (go_at_call 25; refine (Try.Builder_String_any _ _ acc _ HB.out (by omega)).mono ?_; rintro e w1 ⟨rfl, hB1⟩; have HW1 := Lib.hid (HW.out.trans hB1))
        go_ret
        exact ⟨by rw [← HV.out]; rfl, ((Below.refl _ w).alloc (Nat.le_refl _) _).trans HW1.out⟩
end Go.Proofs.Ytajnpmhgldfgfaa
