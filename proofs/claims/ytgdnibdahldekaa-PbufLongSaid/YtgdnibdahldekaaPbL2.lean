/- The walk of the law PbufLong. -/
import Derived.Test.YtgdnibdahldekaaProg
import Derived.Test.YtgdnibdahldekaaPbL1
import Derived.Test.YtgdnibdahldekaaMemZ
import Derived.Test.YtgdnibdahldekaaPbP
import Derived.Test.YtgdnibdahldekaaPbZ
import Derived.Test.YtgdnibdahldekaaMem
import Derived.WalkKit
import Derived.ProofKit
import Derived.LoopTactic
import Derived.WalkSpells
import Derived.WalkLawsBesides
import Derived.Lib.Hide
import Derived.Outline
import Derived.Handy
namespace Go.Proofs.Ytgdnibdahldekaa
open Go.RowKit
set_option linter.unusedVariables false


set_option maxRecDepth 20000 in
set_option maxHeartbeats 800000 in
theorem pbufLong_walk (a0 : Int) (a1 : Int) (w0 : (Lit.int .u64 a0).wf = true) (w1 : (Lit.int .i64 a1).wf = true) (w : World) :
    Calls Try.prog 4 #[.int .u64 a0, .int .i64 a1] w fun e w' => e = .returned (.bool true) ∧ Below w.heap.size w w' := by
  have b0 : 0 ≤ a0 ∧ a0 ≤ 18446744073709551615 := by simpa [Lit.wf, IntKind.min, IntKind.max, IntKind.signed, IntKind.bits] using w0
  have b1 : -9223372036854775808 ≤ a1 ∧ a1 ≤ 9223372036854775807 := by simpa [Lit.wf, IntKind.min, IntKind.max, IntKind.signed, IntKind.bits] using w1
  clear w0 w1
  obtain ⟨b0, b01⟩ := b0
  obtain ⟨b1, b11⟩ := b1
  obtain ⟨v, rfl⟩ := Int.eq_ofNat_of_zero_le b0
  have hv : v < 18446744073709551616 := by omega
  have hlen := putV_le v hv
  have hpos := putV_pos v
  by_cases hm : 1 ≤ a1 ∧ a1 ≤ 12
  · obtain ⟨hm1, hm2⟩ := hm
    obtain ⟨m, rfl⟩ := Int.eq_ofNat_of_zero_le (show 0 ≤ a1 by omega)
    have hne : (((putV v).length : Int) == 0) = false := beq_eq_false_iff_ne.2 (by omega)
    go_enter Try.func4, Try.ntmps4
    go_wp2_with fail
    refine (putVarint_any v hv _).mono ?_
    rintro e w1 ⟨rfl, hB⟩
    go_wp2_with (refine wpList_convZ rfl 9 30 _ rfl Try.underlying9 Try.underlying30 Try.underlying5 w hB hB.size _ rfl ?c1 ?_)
    case c1 => unfold maxLen; omega
    intro g cap w2 hO hB2 hsz2
    obtain ⟨g', cap', hv', hb, hg, hcell⟩ := hO.cell
    injection hv' with hv1 _ hv2
    injection hv1 with hv1
    injection hv1 with hv1 _ _
    subst hv1
    subst hv2
    obtain ⟨hc1, hc2⟩ := hcell ((putV v).length - 1) (by omega)
    have hset := hO.set rfl ((putV v).length - 1) (by omega) (UInt8.ofNat (((putV v)[(putV v).length - 1]).toNat % 128 + 128))
    have hL : lastOr (putV v) = (putV v).set ((putV v).length - 1) (UInt8.ofNat (((putV v)[(putV v).length - 1]).toNat % 128 + 128)) := by
      unfold lastOr
      rw [List.getD_eq_getElem?_getD, List.getElem?_eq_getElem (by omega), Option.getD_some]
    rw [← hL] at hset
    have hlL : (lastOr (putV v)).length = (putV v).length := by simp [lastOr]
    have HL := Lib.hid hlL
    have HLE := Lib.hid (putLong_eq v v m (Nat.le_refl _))
    have HG := Lib.hid (gvar_putLong v m (by omega))
    have HLL := Lib.hid (putLong_len v m (by omega))
    clear hL hlL hcell hO
    generalize (putV v)[(putV v).length - 1] = c at *
    have hor := pv_orc c
    generalize UInt8.ofNat (c.toNat % 128 + 128) = d at *
    unfold bv at hc1 hset
    have HS := Lib.hid hset
    clear hset
    go_wp2_with fail
    have hsL := HS.out
    clear HS hc1 hc2 hor
    have hB3 : Below w.heap.size w (w2.setCell ⟨g, (putV v).length - 1, none⟩ (.int .u8 (d.toNat : Int))) := hB2.setCell (p := ⟨g, (putV v).length - 1, none⟩) hb _
    have hsz3 : w.heap.size ≤ (w2.setCell ⟨g, (putV v).length - 1, none⟩ (.int .u8 (d.toNat : Int))).heap.size := by simp; omega
    generalize w2.setCell ⟨g, (putV v).length - 1, none⟩ (.int .u8 (d.toNat : Int)) = w3 at *
    clear hB2 hB hsz2 hg
    go_loopw [6, 7] (fun s i wr => ∃ k : Nat, 1 ≤ k ∧ k ≤ m ∧ i = .int .i64 k ∧ OwnZ wr w.heap.size 5 s (lastOr (putV v) ++ List.replicate (k - 1) 128) ∧ Below w.heap.size w wr ∧ w.heap.size ≤ wr.heap.size)
      (fun _ i _ => m - (intOf i).toNat)
    case atStart => exact ⟨1, by omega, by omega, rfl, by simpa [OwnZ, HL.out] using hsL, hB3, hsz3⟩
    case round =>
      obtain ⟨k, hk1, hk2, rfl, hO, hB4, hsz4⟩ := hrel
      by_cases hlt : k < m
      · go_wp2_with (at_builtin; refine wpList_appZ rfl _ _ _ slB rfl w (hB4.alloc hsz4 _) (by simp; omega) _ _ rfl (hO.alloc _) ⟨wr.heap.size, 0, none⟩ 128 rfl ?c1 ?c2 ?_)
        case c1 => exact cell_one_new wr (.int .u8 128) _ 0 _ rfl
        case c2 => simp; rw [HL.out]; omega
        intro v' w4 hO4 hB5 hsz5
        go_wp2
        go_roundw
        case rel => exact ⟨k + 1, by omega, by omega, by go_num, by
          rw [← List.replicate_succ', show k - 1 + 1 = k + 1 - 1 from by omega] at hO4; exact hO4, hB5, hsz5⟩
        case measure => simp [intOf]; omega
      · obtain rfl : k = m := by omega
        go_wp2_with (at_builtin; refine wpList_appZ rfl _ _ _ slB rfl w (hB4.alloc hsz4 _) (by simp; omega) _ _ rfl (hO.alloc _) ⟨wr.heap.size, 0, none⟩ 0 rfl ?c1 ?c2 ?_)
        case c1 => exact cell_one_new wr (.int .u8 0) _ 0 _ rfl
        case c2 => simp; rw [HL.out]; omega
        intro v' w4 hO4 hB5 hsz5
        rw [HLE.out] at hO4
        have hcv := hO4.convert (P := Try.prog) (src := 30) (dst := 9) Try.underlying30 Try.underlying5 Try.underlying9
        obtain ⟨g5, cap5, rfl, _, _, _⟩ := hO4.cell
        clear hO4 hO hB4
        by_cases hgood : (putV v).length + k ≤ 10
        · have hgv : gvar (putLong v k) = some (v, (putV v).length + k) := by rw [HG.out, if_pos hgood]
          go_wp2_with fail
          refine (getVarint_some _ _ _ (by rw [size_mk, HLL.out]; omega) hgv _).mono ?_
          rintro e w' ⟨rfl, rfl⟩
          have hLL := HLL.out
          go_wp2_with fail
          refine (alive10_any _).mono ?_
          rintro e w6 ⟨rfl, hB6⟩
          go_wp2_with fail
          go_ret
          exact ⟨rfl, hB5.trans (hB6.mono hsz5)⟩
        · have hgv : gvar (putLong v k) = none := by rw [HG.out, if_neg hgood]
          go_wp2_with fail
          refine (getVarint_none _ (by rw [size_mk, HLL.out]; omega) hgv _).mono ?_
          rintro e w' ⟨rfl, rfl⟩
          have hLL := HLL.out
          go_wp2_with fail
          refine (alive10_any _).mono ?_
          rintro e w6 ⟨rfl, hB6⟩
          go_wp2_with fail
          go_ret
          exact ⟨rfl, hB5.trans (hB6.mono hsz5)⟩
  · by_cases hm' : a1 < 1
    all_goals
      go_enter Try.func4, Try.ntmps4
      go_wp2_with fail
      refine (putVarint_any v hv _).mono ?_
      rintro e w1 ⟨rfl, hB⟩
      go_wp2_with fail
      refine (alive10_any _).mono ?_
      rintro e w2 ⟨rfl, hB2⟩
      go_wp2_with fail
      go_ret
      exact ⟨rfl, hB.trans (hB2.mono hB.size)⟩
end Go.Proofs.Ytgdnibdahldekaa
