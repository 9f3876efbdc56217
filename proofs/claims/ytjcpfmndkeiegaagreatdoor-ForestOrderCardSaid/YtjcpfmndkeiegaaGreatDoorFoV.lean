/- The walk of hornbeambook.SameTexts. -/
import Derived.Test.YtjcpfmndkeiegaaGreatDoorFoU
import Derived.Test.YtjcpfmndkeiegaaGreatDoorFoL
import Derived.BigRegion
import Derived.BigQuiet
namespace Go.Proofs.YtjcpfmndkeiegaaGreatDoor
open Go.RowKit
set_option linter.unusedVariables false

theorem below_drewN' {B : Nat} {a w : World} (h : Below B a w) (n : Nat) : Below B a (w.drewN n) := ⟨h.os, h.tape, h.output, h.size, h.block⟩
set_option maxRecDepth 100000 in
set_option maxHeartbeats 4000000 in
theorem sameTexts_any {w : World} {x y : Option Addr} {n m c d : Nat} {l r : List ByteArray} (hl : RdS w x l) (hln : l.length = n) (hr : RdS w y r) (hrn : r.length = m) (hn : n ≤ 1000000) (hm : m ≤ 1000000) :
    Calls Tryz.prog 9 #[.slice x n c, .slice y m d] w fun e w' => e = .returned (.bool (decide (l = r))) ∧ Below w.heap.size w w' := by
  by_cases hnm : n = m
  · subst hnm
    have HL := Lib.hid hl
    have HR := Lib.hid hr
    have HLn := Lib.hid hln
    have HRn := Lib.hid hrn
    clear hl hr hln hrn
    go_enter Tryz.func9, Tryz.ntmps9
    go_wp2
    go_loopw [5] (fun p W => ∃ k : Nat, p = .int .i64 k ∧ k ≤ n ∧ Hid (l.take k = r.take k) ∧ Below w.heap.size w W) (fun p W => n - (intOf p).toNat)
    case atStart => exact ⟨0, rfl, Nat.zero_le _, Lib.hid rfl, Below.refl _ _⟩
    case round =>
      obtain ⟨k, rfl, hk, hT, hB⟩ := hrel
      have HB := Lib.hid hB
      clear hB
      by_cases hlt : k < n
      · obtain ⟨u, rfl, hub, huc⟩ := (HL.out.below HB.out) k (by rw [HLn.out]; exact hlt)
        obtain ⟨v, rfl, hvb, hvc⟩ := (HR.out.below HB.out) k (by rw [HRn.out]; exact hlt)
        obtain ⟨s, hs⟩ : ∃ s, l[k]'(by rw [HLn.out]; exact hlt) = s := ⟨_, rfl⟩
        obtain ⟨t, ht⟩ : ∃ t, r[k]'(by rw [HRn.out]; exact hlt) = t := ⟨_, rfl⟩
        rw [hs] at huc
        rw [ht] at hvc
        have HSk := Lib.hid (show l[k]? = some s by rw [List.getElem?_eq_getElem (by rw [HLn.out]; exact hlt), hs])
        have HTk := Lib.hid (show r[k]? = some t by rw [List.getElem?_eq_getElem (by rw [HRn.out]; exact hlt), ht])
        clear hs ht hub hvb
        have hls : l.take (k + 1) = l.take k ++ [s] := by rw [List.take_add_one, HSk.out]; rfl
        have hrs : r.take (k + 1) = r.take k ++ [t] := by rw [List.take_add_one, HTk.out]; rfl
        have HLs := Lib.hid hls
        have HRs := Lib.hid hrs
        clear hls hrs
        by_cases hst : s = t
        · subst hst
          go_wp2
          go_quiet (fail)
          go_wp2
          exact ⟨⟨k + 1, by go_num, by omega, Lib.hid (by rw [HLs.out, HRs.out, hT.out]), below_drewN' HB.out nq⟩, by simp only [intOf]; omega⟩
        · have hss : (s.toList == t.toList) = false := beq_eq_false_iff_ne.2 (fun h => hst (by
            rw [ByteArray.toList_eq, ByteArray.toList_eq] at h
            exact ByteArray.ext (Array.toList_inj.1 h)))
          have HN := Lib.hid (show decide (l = r) = false from decide_eq_false (fun e => hst (by
            have h1 := HSk.out
            rw [e, HTk.out] at h1
            exact (Option.some.inj h1).symm)))
          go_wp2
          go_quiet (fail)
          go_wp2
          go_ret
          exact ⟨ret_bool HN.out.symm, below_drewN' HB.out nq⟩
      · obtain rfl : k = n := by omega
        go_wp2
        go_ret
        refine ⟨ret_bool ?_, HB.out⟩
        have := hT.out
        rw [List.take_of_length_le (by rw [HLn.out]; exact Nat.le_refl _), List.take_of_length_le (by rw [HRn.out]; exact Nat.le_refl _)] at this
        simp [this]
  · have hne : ((n : Int) != (m : Int)) = true := bne_iff_ne.2 (by omega)
    have hd : decide (l = r) = false := decide_eq_false (fun e => hnm (by rw [← hln, ← hrn, e]))
    rw [hd]
    clear hl hr hln hrn hd
    go_enter Tryz.func9, Tryz.ntmps9
    go_wp2
    go_ret
    exact ⟨rfl, Below.refl _ _⟩
end Go.Proofs.YtjcpfmndkeiegaaGreatDoor
