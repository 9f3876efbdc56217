/- The walks of pbuf.GetVarint and of the document's own: each computes gvar. -/
import Derived.Test.YtgdnibdahldekabProg
import Derived.Test.YtgdnibdahldekabPbA
import Derived.WalkKit
import Derived.ProofKit
import Derived.LoopTactic
import Derived.WalkSpells
import Derived.WalkLawsBesides
import Derived.Lib.Hide
import Derived.Outline
import Derived.Handy
namespace Go.Proofs.Ytgdnibdahldekab
open Go.RowKit
set_option linter.unusedVariables false

set_option maxRecDepth 20000 in
set_option maxHeartbeats 800000 in
theorem getVarint_any (s : ByteArray) (hs : s.size ≤ 9223372036854775807) (w : World) :
    Calls Try.prog 49 #[.string s] w fun e w' => e = .returned (gvRes (gvar s.data.toList)) ∧ w = w' := by
  unfold gvar
  go_enter Try.func49, Try.ntmps49
  go_wp2
  go_step3
  go_wp2
  go_step3
  go_wp2
  all_goals
    go_loop [5, 10] (fun v i => ∃ (k : Nat) (x : Nat), k ≤ s.size ∧ k ≤ 10 ∧ x < 128 ^ k ∧ v = .int .u64 x ∧ i = .int .i64 k ∧ gvGo s.data.toList 0 0 = gvGo (s.data.toList.drop k) k x)
      (fun _ i => 10 - (intOf i).toNat)
    case atStart => exact ⟨0, 0, by omega, by omega, by simp, rfl, rfl, rfl⟩
    case round =>
      obtain ⟨k, x, hk, hk10, hx, rfl, rfl, h⟩ := hrel
      have H := Lib.hid h
      clear h
      have HX := Lib.hid hx
      clear hx
      by_cases hlt : k < 10 ∧ k < s.size
      · obtain ⟨hlt, hks⟩ := hlt
        have HD := Lib.hid (drop_cons s k hks)
        by_cases h9 : k = 9
        · have h9' : ((k : Int) == 9) = true := by simp; omega
          have H9 := Lib.hid h9
          clear h9
          go_wp2
          · go_ret3
            exact ⟨by rw [H.out, HD.out, gvGo_bad H9.out (by omega)]; rfl, rfl⟩
          · go_ret3
            refine ⟨?_, rfl⟩
            rw [H.out, HD.out, gvGo_end (by omega) (by omega) (by omega)]
            rw [gv_or _ _ _ (by omega) HX.out (by omega) (by omega)]; rfl
        · have h9' : ((k : Int) == 9) = false := by simp; omega
          go_wp2
          · go_ret3
            refine ⟨?_, rfl⟩
            rw [H.out, HD.out, gvGo_end (by omega) (by omega) (by omega)]
            rw [gv_or _ _ _ (by omega) HX.out (by omega) (by omega)]; rfl
          · go_round
            case rel => exact ⟨k + 1, x + s[k].toNat % 128 * 128 ^ k, by omega, by omega, gv_lt HX.out, by rw [gv_or _ _ _ (by omega) HX.out (UInt8.toNat_lt _) (by omega)], by go_num, by rw [H.out, HD.out, gvGo_more (by omega) (by omega) (by omega)]⟩
            case measure => simp [intOf]; omega
      · go_wp2
        go_ret3
        refine ⟨?_, rfl⟩
        rw [H.out]
        by_cases h10 : k = 10
        · rw [gvGo_ten _ _ _ h10]; rfl
        · rw [drop_end s k (by omega), gvGo_nil]; rfl

set_option maxRecDepth 20000 in
set_option maxHeartbeats 800000 in
theorem refGetVarint_any (s : ByteArray) (hs : s.size ≤ 9223372036854775807) (w : World) :
    Calls Try.prog 57 #[.string s] w fun e w' => e = .returned (gvRes (gvar s.data.toList)) ∧ w = w' := by
  unfold gvar
  go_enter Try.func57, Try.ntmps57
  go_wp2
  go_loop [5, 6, 7] (fun v m i => ∃ (k x y : Nat), k ≤ s.size ∧ k ≤ 10 ∧ x < 128 ^ k ∧ v = .int .u64 x ∧ m = .int .u64 y ∧ i = .int .i64 k ∧ (k ≤ 9 → y = 128 ^ k) ∧ gvGo s.data.toList 0 0 = gvGo (s.data.toList.drop k) k x)
      (fun _ _ i => 10 - (intOf i).toNat)
  case atStart => exact ⟨0, 0, 1, by omega, by omega, by simp, rfl, rfl, rfl, by simp, rfl⟩
  case round =>
    obtain ⟨k, x, y, hk, hk10, hx, rfl, rfl, rfl, hy, h⟩ := hrel
    have H := Lib.hid h
    clear h
    have HX := Lib.hid hx
    clear hx
    have HY := Lib.hid hy
    clear hy
    by_cases hlt : k < 10 ∧ k < s.size
    · obtain ⟨hlt, hks⟩ := hlt
      have HD := Lib.hid (drop_cons s k hks)
      have hcw : IntKind.u64.wrap (s[k].toNat : Int) = (s[k].toNat : Int) := IntWalk.u64_in _ ⟨by omega, by have := UInt8.toNat_lt s[k]; omega⟩
      have HC := Lib.hid (UInt8.toNat_lt s[k])
      by_cases h9 : k = 9
      · have h9' : ((k : Int) == 9) = true := by simp; omega
        have H9 := Lib.hid h9
        clear h9
        go_wp2
        · go_ret3
          exact ⟨by rw [H.out, HD.out, gvGo_bad H9.out (by omega)]; rfl, rfl⟩
        · go_ret3
          refine ⟨?_, rfl⟩
          rw [H.out, HD.out, gvGo_end (by omega) (by omega) (by omega), gv_ref _ _ _ _ (by omega) HX.out HC.out (by omega) (HY.out (by omega))]; rfl
      · have h9' : ((k : Int) == 9) = false := by simp; omega
        go_wp2
        · go_ret3
          refine ⟨?_, rfl⟩
          rw [H.out, HD.out, gvGo_end (by omega) (by omega) (by omega), gv_ref _ _ _ _ (by omega) HX.out HC.out (by omega) (HY.out (by omega))]; rfl
        · obtain ⟨z, hz, hz'⟩ := gv_mul' k y (by omega) (HY.out (by omega))
          go_round
          case rel => exact ⟨k + 1, x + s[k].toNat % 128 * 128 ^ k, z, by omega, by omega, gv_lt HX.out, by rw [gv_ref _ _ _ _ (by omega) HX.out HC.out (by omega) (HY.out (by omega))], by rw [hz], by go_num, hz', by rw [H.out, HD.out, gvGo_more (by omega) (by omega) (by omega)]⟩
          case measure => simp [intOf]; omega
    · have hfin : gvGo (List.drop k s.data.toList) k x = none := by
        by_cases h10 : k = 10
        · exact gvGo_ten _ _ _ h10
        · rw [drop_end s k (by omega), gvGo_nil]
      have HF := Lib.hid hfin
      clear hfin
      go_wp2
      all_goals
        go_ret3
        exact ⟨by rw [H.out, HF.out]; rfl, rfl⟩

theorem getVarint_some (s : ByteArray) (v k : Nat) (hs : s.size ≤ 9223372036854775807) (h : gvar s.data.toList = some (v, k)) (w : World) :
    Calls Try.prog 49 #[.string s] w fun e w' => e = .returned (.tuple #[.int .u64 v, .int .i64 k, .bool true]) ∧ w = w' :=
  (getVarint_any s hs w).mono fun e w' ⟨h1, h2⟩ => ⟨by rw [h1, h]; rfl, h2⟩
theorem getVarint_none (s : ByteArray) (hs : s.size ≤ 9223372036854775807) (h : gvar s.data.toList = none) (w : World) :
    Calls Try.prog 49 #[.string s] w fun e w' => e = .returned (.tuple #[.int .u64 0, .int .i64 0, .bool false]) ∧ w = w' :=
  (getVarint_any s hs w).mono fun e w' ⟨h1, h2⟩ => ⟨by rw [h1, h]; rfl, h2⟩
theorem refGetVarint_some (s : ByteArray) (v k : Nat) (hs : s.size ≤ 9223372036854775807) (h : gvar s.data.toList = some (v, k)) (w : World) :
    Calls Try.prog 57 #[.string s] w fun e w' => e = .returned (.tuple #[.int .u64 v, .int .i64 k, .bool true]) ∧ w = w' :=
  (refGetVarint_any s hs w).mono fun e w' ⟨h1, h2⟩ => ⟨by rw [h1, h]; rfl, h2⟩
theorem refGetVarint_none (s : ByteArray) (hs : s.size ≤ 9223372036854775807) (h : gvar s.data.toList = none) (w : World) :
    Calls Try.prog 57 #[.string s] w fun e w' => e = .returned (.tuple #[.int .u64 0, .int .i64 0, .bool false]) ∧ w = w' :=
  (refGetVarint_any s hs w).mono fun e w' ⟨h1, h2⟩ => ⟨by rw [h1, h]; rfl, h2⟩
end Go.Proofs.Ytgdnibdahldekab
