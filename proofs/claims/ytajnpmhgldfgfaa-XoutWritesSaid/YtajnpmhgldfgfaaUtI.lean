/- The iterator utf.Runes: its contract, at the wide fence. -/
import Derived.RangeFuncNested
import Derived.RangeFuncBound
import Derived.RangeFuncCalls
import Derived.RangeFuncLeaves
import Derived.RangeFuncBox
import Derived.Shelf.Abstract
import Derived.Shelf.RegionOpen
import Derived.WalkKit
import Derived.OwnWalkIn
import Derived.TacticsInMore
import Derived.LoopNIn
import Derived.LoopIn
import Derived.Maps.AppendAt
import Derived.Lib.Hide
import Derived.Outline
import Derived.Test.YtajnpmhgldfgfaaUtNL
import Derived.Test.YtajnpmhgldfgfaaIt
import Derived.Test.YtajnpmhgldfgfaaProg
namespace Go.Proofs.Ytajnpmhgldfgfaa
open Go.RowKit Go.Shelf
set_option linter.unusedVariables false
attribute [local go_sem] Oper.semAt_some

abbrev encII (x : Nat × Nat) : Array Value := #[.int .i64 x.1, .int .i64 x.2]

set_option maxRecDepth 100000 in
set_option maxHeartbeats 1000000 in
theorem runes1_in (n : Nat) (hn : 1 ≤ n) (l B : Nat) (s : ByteArray) (hs : s.size ≤ 9223372036854775807) (J Jx : List (Nat × Nat) → World → Prop)
    (hY : ∀ pre x W, J pre W → pre.length < (allRunes s.data.toList).length → YieldAt Fence.wide (n - 1) Try.prog l (encII x) W fun e W' =>
      (e = .returned (.bool true) ∧ J (pre ++ [x]) W' ∧ KeepB B W W') ∨ (e = .returned (.bool false) ∧ Jx (pre ++ [x]) W'))
    (W : World) (hb : Boxed W B 9 (.string s)) (h0 : J [] W) :
    CallsIn Fence.wide n Try.prog 52 #[.func (.yield l) #[] #[], .pointer (some ⟨B, 0, none⟩)] W fun e W' => (∃ v, e = .returned v) ∧
      ((∃ ys, ys = allRunes s.data.toList ∧ J ys W') ∨ (∃ pre, pre <+: allRunes s.data.toList ∧ Jx pre W')) := by
  refine callsIn_of_wp Try.func52 rfl trivial ?_ rfl
  simp only [Try.ntmps52, List.size_toArray, List.length_cons, List.length_nil, Nat.reduceAdd, Nat.reduceSub, Array.replicate_succ, Array.replicate_zero, List.push_toArray, List.append_toArray, List.nil_append, List.cons_append]
  gi_wp2
  gi_loopw [3] (fun p wr => ∃ (k : Nat) (pre : List (Nat × Nat)), p = .int .i64 k ∧ k ≤ s.size ∧ allRunes s.data.toList = pre ++ runesAt k (runesL (s.data.toList.drop k)) ∧ J pre wr ∧ Boxed wr B 9 (.string s))
    (fun p wr => s.size - (intOf p).toNat)
  case atStart => exact ⟨0, [], rfl, by omega, rfl, h0, hb⟩
  case round =>
    obtain ⟨k, pre, rfl, hk, h, hJ, hbx⟩ := hrel
    have H := Lib.hid h
    clear h
    have hc := hbx.cell
    by_cases hlt : k < s.size
    · cases hn : nextL (s.data.toList.drop k) with
      | none =>
        have hc1 : nextL (s.extract k s.size).data.toList = none := by rw [extract_drop]; exact hn
        have HC := Lib.hid hc1
        have hfin : allRunes s.data.toList = pre := by rw [H.out, runesL_none hn]; simp [runesAt]
        have HF := Lib.hid hfin
        clear hn hc1 hfin
        gi_wp2_with (refine ⟨trivial, ?_⟩; gi_at_call 48; refine (callsIn_wide.2 (next_any _ (by simp; omega) (by simp; omega) _)).mono ?_; rintro e w' ⟨rfl, rfl⟩; rw [HC.out, nextRes_none])
        refine ⟨fun _ _ => trivial, ?_⟩
        gi_wp2
        refine bodyPost_ret (results_none rfl _ _ _) rfl ?_
        exact ⟨⟨_, rfl⟩, .inl ⟨pre, HF.out.symm, hJ⟩⟩
      | some p =>
        obtain ⟨r, m⟩ := p
        have hc1 : nextL (s.extract k s.size).data.toList = some (r, m) := by rw [extract_drop]; exact hn
        have HC := Lib.hid hc1
        obtain ⟨n1, n2, n3, n4⟩ := nextL_bd hn
        simp at n2
        have hst : allRunes s.data.toList = (pre ++ [(k, r)]) ++ runesAt (k + m) (runesL (s.data.toList.drop (k + m))) := by
          rw [H.out, runesL_some hn, List.drop_drop]
          simp [runesAt]
        have HS := Lib.hid hst
        have hz : ((m : Int) == 0) = false := beq_eq_false_iff_ne.2 (by omega)
        have hlen : pre.length < (allRunes s.data.toList).length := by rw [hst]; simp
        obtain ⟨fn, tmps, assign, body, hy, hR⟩ := hY pre (k, r) wr hJ hlen
        have HR := Lib.hid hR
        simp only [encII] at hy
        clear hn hc1 hst n4 hR hlen hY
        gi_wp2_with (refine ⟨trivial, ?_⟩; gi_at_call 48; refine (callsIn_wide.2 (next_any _ (by simp; omega) (by simp; omega) _)).mono ?_; rintro e w' ⟨rfl, rfl⟩; rw [HC.out, nextRes_some])
        refine HR.out.mono ?_
        rintro e W3 (⟨rfl, hJ3, hk3⟩ | ⟨rfl, hJx3⟩)
        · have hbx3 := hk3.boxed hbx
          gi_wp2
          go_roundw
          case rel => exact ⟨k + m, pre ++ [(k, r)], by go_num, by omega, HS.out, hJ3, hbx3⟩
          case measure => simp [intOf]; omega
        · gi_wp2
          refine bodyPost_ret (results_none rfl _ _ _) rfl ?_
          exact ⟨⟨_, rfl⟩, .inr ⟨pre ++ [(k, r)], ⟨_, HS.out.symm⟩, hJx3⟩⟩
    · obtain rfl : k = s.size := by omega
      have hfin : allRunes s.data.toList = pre := by rw [H.out, drop_end s _ (Nat.le_refl _), runesL_none rfl]; simp [runesAt]
      have HF := Lib.hid hfin
      clear hfin
      gi_wp2
      go_end0
      exact ⟨⟨_, rfl⟩, .inl ⟨pre, HF.out.symm, hJ⟩⟩

theorem runes_any (s : ByteArray) (w : World) :
    Calls Try.prog 40 #[.string s] w fun e w' => e = .returned (.func (.func 52) #[] #[.pointer (some ⟨w.heap.size, 0, none⟩)]) ∧ w.alloc (.cells #[.string s] 9) = w' := by
  go_enter Try.func40, Try.ntmps40
  go_wp2
  go_ret
  exact ⟨rfl, rfl⟩

theorem runes_stops (n : Nat) (hn : 1 ≤ n) (B : Nat) (s : ByteArray) (hs : s.size ≤ 9223372036854775807) (w : World) (hb : Boxed w B 9 (.string s)) :
    SeqStopsK Fence.wide n Try.prog 52 #[.pointer (some ⟨B, 0, none⟩)] encII (KeepB B) (fun ys => ys = allRunes s.data.toList) (fun pre => pre <+: allRunes s.data.toList) (allRunes s.data.toList).length w :=
  fun l J Jx W hW _ _ hY h0 => runes1_in n hn l B s hs J Jx hY W ((hW.block B hb.lt).trans hb) h0

end Go.Proofs.Ytajnpmhgldfgfaa
