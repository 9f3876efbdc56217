/- The book's lists of other kinds, of which there are none; Apart. -/
import Derived.Test.YtgdnibdahldekabDoorBkD
namespace Go.Proofs.YtgdnibdahldekabDoor
open Go.RowKit
set_option linter.unusedVariables false

set_option maxRecDepth 100000 in
theorem stillTexts_nil (B : Nat) (w : World) (h : w.cell? ⟨B, 0, none⟩ = some nilV) : Calls Tryd.prog 30 #[.pointer (some ⟨B, 0, none⟩)] w fun e W' => e = .returned (.bool true) ∧ Below w.heap.size w W' := by
  go_enter Tryd.func30, Tryd.ntmps30
  go_wp2
  refine wp_loop_rounds 1 ?_
  rw [rounds_succ]
  go_wp2
  go_ret
  exact ⟨rfl, Below.refl _ _⟩
set_option maxRecDepth 100000 in
theorem putTexts_nil (B : Nat) (w : World) (h : w.cell? ⟨B, 0, none⟩ = some nilV) : Calls Tryd.prog 37 #[.pointer (some ⟨B, 0, none⟩)] w fun e W' => (∃ v, e = .returned v) ∧ W' = w := by
  go_enter Tryd.func37, Tryd.ntmps37
  go_wp2
  refine wp_loop_rounds 1 ?_
  rw [rounds_succ]
  go_wp2
  go_returns
  exact ⟨⟨_, rfl⟩, rfl⟩
set_option maxRecDepth 100000 in
theorem growTexts_nil (B : Nat) (w : World) (h : w.cell? ⟨B, 0, none⟩ = some nilV) : Calls Tryd.prog 42 #[.pointer (some ⟨B, 0, none⟩)] w fun e W' => e = .returned nilV ∧ W' = w := by
  go_enter Tryd.func42, Tryd.ntmps42
  go_wp2
  refine wp_loop_rounds 1 ?_
  rw [rounds_succ]
  go_wp2
  go_ret
  exact ⟨rfl, rfl⟩
set_option maxRecDepth 100000 in
theorem markedTexts_nil (w : World) : Calls Tryd.prog 48 #[nilV] w fun e W' => e = .returned (.bool true) ∧ Below w.heap.size w W' := by
  go_enter Tryd.func48, Tryd.ntmps48
  go_wp2
  refine wp_loop_rounds 1 ?_
  rw [rounds_succ]
  go_wp2
  go_ret
  exact ⟨rfl, Below.refl _ _⟩
set_option maxRecDepth 100000 in
theorem stillInts_nil (B : Nat) (w : World) (h : w.cell? ⟨B, 2, none⟩ = some nilV) : Calls Tryd.prog 31 #[.pointer (some ⟨B, 0, none⟩)] w fun e W' => e = .returned (.bool true) ∧ Below w.heap.size w W' := by
  go_enter Tryd.func31, Tryd.ntmps31
  go_wp2
  refine wp_loop_rounds 1 ?_
  rw [rounds_succ]
  go_wp2
  go_ret
  exact ⟨rfl, Below.refl _ _⟩
set_option maxRecDepth 100000 in
theorem putInts_nil (B : Nat) (w : World) (h : w.cell? ⟨B, 2, none⟩ = some nilV) : Calls Tryd.prog 38 #[.pointer (some ⟨B, 0, none⟩)] w fun e W' => (∃ v, e = .returned v) ∧ W' = w := by
  go_enter Tryd.func38, Tryd.ntmps38
  go_wp2
  refine wp_loop_rounds 1 ?_
  rw [rounds_succ]
  go_wp2
  go_returns
  exact ⟨⟨_, rfl⟩, rfl⟩
set_option maxRecDepth 100000 in
theorem growInts_nil (B : Nat) (w : World) (h : w.cell? ⟨B, 2, none⟩ = some nilV) : Calls Tryd.prog 43 #[.pointer (some ⟨B, 0, none⟩)] w fun e W' => e = .returned nilV ∧ W' = w := by
  go_enter Tryd.func43, Tryd.ntmps43
  go_wp2
  refine wp_loop_rounds 1 ?_
  rw [rounds_succ]
  go_wp2
  go_ret
  exact ⟨rfl, rfl⟩
set_option maxRecDepth 100000 in
theorem markedInts_nil (w : World) : Calls Tryd.prog 49 #[nilV] w fun e W' => e = .returned (.bool true) ∧ Below w.heap.size w W' := by
  go_enter Tryd.func49, Tryd.ntmps49
  go_wp2
  refine wp_loop_rounds 1 ?_
  rw [rounds_succ]
  go_wp2
  go_ret
  exact ⟨rfl, Below.refl _ _⟩
set_option maxRecDepth 100000 in
theorem stillPats_nil (B : Nat) (w : World) (h : w.cell? ⟨B, 4, none⟩ = some nilV) : Calls Tryd.prog 32 #[.pointer (some ⟨B, 0, none⟩)] w fun e W' => e = .returned (.bool true) ∧ Below w.heap.size w W' := by
  go_enter Tryd.func32, Tryd.ntmps32
  go_wp2
  refine wp_loop_rounds 1 ?_
  rw [rounds_succ]
  go_wp2
  go_ret
  exact ⟨rfl, Below.refl _ _⟩
set_option maxRecDepth 100000 in
theorem putPats_nil (B : Nat) (w : World) (h : w.cell? ⟨B, 4, none⟩ = some nilV) : Calls Tryd.prog 39 #[.pointer (some ⟨B, 0, none⟩)] w fun e W' => (∃ v, e = .returned v) ∧ W' = w := by
  go_enter Tryd.func39, Tryd.ntmps39
  go_wp2
  refine wp_loop_rounds 1 ?_
  rw [rounds_succ]
  go_wp2
  go_returns
  exact ⟨⟨_, rfl⟩, rfl⟩
set_option maxRecDepth 100000 in
theorem growPats_nil (B : Nat) (w : World) (h : w.cell? ⟨B, 4, none⟩ = some nilV) : Calls Tryd.prog 44 #[.pointer (some ⟨B, 0, none⟩)] w fun e W' => e = .returned nilV ∧ W' = w := by
  go_enter Tryd.func44, Tryd.ntmps44
  go_wp2
  refine wp_loop_rounds 1 ?_
  rw [rounds_succ]
  go_wp2
  go_ret
  exact ⟨rfl, rfl⟩
set_option maxRecDepth 100000 in
theorem markedPats_nil (w : World) : Calls Tryd.prog 50 #[nilV] w fun e W' => e = .returned (.bool true) ∧ Below w.heap.size w W' := by
  go_enter Tryd.func50, Tryd.ntmps50
  go_wp2
  refine wp_loop_rounds 1 ?_
  rw [rounds_succ]
  go_wp2
  go_ret
  exact ⟨rfl, Below.refl _ _⟩
set_option maxRecDepth 100000 in
theorem stillValues_nil (B : Nat) (w : World) (h : w.cell? ⟨B, 8, none⟩ = some nilV) : Calls Tryd.prog 34 #[.pointer (some ⟨B, 0, none⟩)] w fun e W' => e = .returned (.bool true) ∧ Below w.heap.size w W' := by
  go_enter Tryd.func34, Tryd.ntmps34
  go_wp2
  refine wp_loop_rounds 1 ?_
  rw [rounds_succ]
  go_wp2
  go_ret
  exact ⟨rfl, Below.refl _ _⟩
set_option maxRecDepth 100000 in
theorem putValues_nil (B : Nat) (w : World) (h : w.cell? ⟨B, 8, none⟩ = some nilV) : Calls Tryd.prog 41 #[.pointer (some ⟨B, 0, none⟩)] w fun e W' => (∃ v, e = .returned v) ∧ W' = w := by
  go_enter Tryd.func41, Tryd.ntmps41
  go_wp2
  refine wp_loop_rounds 1 ?_
  rw [rounds_succ]
  go_wp2
  go_returns
  exact ⟨⟨_, rfl⟩, rfl⟩
set_option maxRecDepth 100000 in
theorem growValues_nil (B : Nat) (w : World) (h : w.cell? ⟨B, 8, none⟩ = some nilV) : Calls Tryd.prog 46 #[.pointer (some ⟨B, 0, none⟩)] w fun e W' => e = .returned nilV ∧ W' = w := by
  go_enter Tryd.func46, Tryd.ntmps46
  go_wp2
  refine wp_loop_rounds 1 ?_
  rw [rounds_succ]
  go_wp2
  go_ret
  exact ⟨rfl, rfl⟩
set_option maxRecDepth 100000 in
theorem markedValues_nil (w : World) : Calls Tryd.prog 52 #[nilV] w fun e W' => e = .returned (.bool true) ∧ Below w.heap.size w W' := by
  go_enter Tryd.func52, Tryd.ntmps52
  go_wp2
  refine wp_loop_rounds 1 ?_
  rw [rounds_succ]
  go_wp2
  go_ret
  exact ⟨rfl, Below.refl _ _⟩
set_option maxRecDepth 100000 in
theorem stillSteps_nil (B : Nat) (w : World) (h : w.cell? ⟨B, 10, none⟩ = some nilV) : Calls Tryd.prog 35 #[.pointer (some ⟨B, 0, none⟩)] w fun e W' => e = .returned (.bool true) ∧ Below w.heap.size w W' := by
  go_enter Tryd.func35, Tryd.ntmps35
  go_wp2
  refine wp_loop_rounds 1 ?_
  rw [rounds_succ]
  go_wp2
  go_ret
  exact ⟨rfl, Below.refl _ _⟩
set_option maxRecDepth 100000 in
theorem putSteps_nil (B : Nat) (w : World) (h : w.cell? ⟨B, 10, none⟩ = some nilV) : Calls Tryd.prog 36 #[.pointer (some ⟨B, 0, none⟩)] w fun e W' => (∃ v, e = .returned v) ∧ W' = w := by
  go_enter Tryd.func36, Tryd.ntmps36
  go_wp2
  refine wp_loop_rounds 1 ?_
  rw [rounds_succ]
  go_wp2
  go_returns
  exact ⟨⟨_, rfl⟩, rfl⟩
set_option maxRecDepth 100000 in
theorem growSteps_nil (B : Nat) (w : World) (h : w.cell? ⟨B, 10, none⟩ = some nilV) : Calls Tryd.prog 47 #[.pointer (some ⟨B, 0, none⟩)] w fun e W' => e = .returned nilV ∧ W' = w := by
  go_enter Tryd.func47, Tryd.ntmps47
  go_wp2
  refine wp_loop_rounds 1 ?_
  rw [rounds_succ]
  go_wp2
  go_ret
  exact ⟨rfl, rfl⟩
set_option maxRecDepth 100000 in
theorem markedSteps_nil (w : World) : Calls Tryd.prog 53 #[nilV] w fun e W' => e = .returned (.bool true) ∧ Below w.heap.size w W' := by
  go_enter Tryd.func53, Tryd.ntmps53
  go_wp2
  refine wp_loop_rounds 1 ?_
  rw [rounds_succ]
  go_wp2
  go_ret
  exact ⟨rfl, Below.refl _ _⟩
theorem bookIs_below {W W' : World} {base B m : Nat} {vs us : Nat → Value} {ls : Nat → List Di} {V U : Value} (h : BookIs W base B m vs us ls V U) (hB : Below W.heap.size W W') : BookIs W' base B m vs us ls V U :=
  ⟨h.hB, h.blk.below hB h.blk.lt, rowKept h.ownV hB, rowKept h.ownU hB, h.len, fun i hi => rowKept (h.rows i hi) hB, fun i hi => rowKept (h.rowsU i hi) hB, h.sVU, h.sR⟩
theorem Marked.below {W W' : World} {base m : Nat} {gs : Nat → Value} {ns : Nat → Nat} (h : Marked W base m gs ns) (hB : Below W.heap.size W W') : Marked W' base m gs ns := fun i hi => ⟨(h i hi).1, rowKept (h i hi).2 hB⟩
/-- All cells of a book but two are nil. -/
def Nils (W : World) (B : Nat) : Prop := W.cell? ⟨B, 0, none⟩ = some nilV ∧ W.cell? ⟨B, 2, none⟩ = some nilV ∧ W.cell? ⟨B, 4, none⟩ = some nilV ∧ W.cell? ⟨B, 8, none⟩ = some nilV ∧ W.cell? ⟨B, 10, none⟩ = some nilV
theorem nils_of {W : World} {B : Nat} {V U : Value} (h : BlkAt W B 51 (bookCells V U)) : Nils W B :=
  ⟨(h.cell 0).trans rfl, (h.cell 2).trans rfl, (h.cell 4).trans rfl, (h.cell 8).trans rfl, (h.cell 10).trans rfl⟩
set_option maxRecDepth 200000 in
set_option maxHeartbeats 3200000 in
theorem apart_any (base B m : Nat) (vs us : Nat → Value) (ls : Nat → List Di) (V U : Value) (hm : m ≤ 100) (w : World) (h : BookIs w base B m vs us ls V U) (hbs : base ≤ w.heap.size) :
    Calls Tryd.prog 20 #[.pointer (some ⟨B, 0, none⟩)] w fun e W' => e = .returned (.bool true) ∧ Below base w W' := by
  have mixed : Tryd.prog.follows .mixedOrders = true := by kernel_rfl
  obtain ⟨Va, Vc, rfl⟩ := ownsRow_slice' h.ownV
  have HB := Lib.hid h
  clear h
  go_enter Tryd.func20, Tryd.ntmps20
  have HBl0 := Lib.hid (Below.refl w.heap.size w)
  have HC0 := Lib.hid (stillTexts_nil B w (nils_of (HB.out.blk.below HBl0.out HB.out.blk.lt)).1)
  go_wp2_with fail
  refine HC0.out.mono ?_
  rintro e w1 ⟨rfl, hB⟩
  have HBl1 := Lib.hid (HBl0.out.trans (hB.mono HBl0.out.size))
  clear hB HC0
  have HC1 := Lib.hid (stillInts_nil B w1 (nils_of (HB.out.blk.below HBl1.out HB.out.blk.lt)).2.1)
  go_wp2_with fail
  refine HC1.out.mono ?_
  rintro e w2 ⟨rfl, hB⟩
  have HBl2 := Lib.hid (HBl1.out.trans (hB.mono HBl1.out.size))
  clear hB HC1
  have HC2 := Lib.hid (stillPats_nil B w2 (nils_of (HB.out.blk.below HBl2.out HB.out.blk.lt)).2.2.1)
  go_wp2_with fail
  refine HC2.out.mono ?_
  rintro e w3 ⟨rfl, hB⟩
  have HBl3 := Lib.hid (HBl2.out.trans (hB.mono HBl2.out.size))
  clear hB HC2
  have hbook := bookIs_below HB.out HBl3.out
  have HC3 := Lib.hid (still_any base B m vs us ls (.slice Va m Vc) U hm w3 hbook)
  clear hbook
  go_wp2_with fail
  refine HC3.out.mono ?_
  rintro e w4 ⟨rfl, hB⟩
  have HBl4 := Lib.hid (HBl3.out.trans (hB.mono HBl3.out.size))
  clear hB HC3
  have HC4 := Lib.hid (stillValues_nil B w4 (nils_of (HB.out.blk.below HBl4.out HB.out.blk.lt)).2.2.2.1)
  go_wp2_with fail
  refine HC4.out.mono ?_
  rintro e w5 ⟨rfl, hB⟩
  have HBl5 := Lib.hid (HBl4.out.trans (hB.mono HBl4.out.size))
  clear hB HC4
  have HC5 := Lib.hid (stillSteps_nil B w5 (nils_of (HB.out.blk.below HBl5.out HB.out.blk.lt)).2.2.2.2)
  go_wp2_with fail
  refine HC5.out.mono ?_
  rintro e w6 ⟨rfl, hB⟩
  have HBl6 := Lib.hid (HBl5.out.trans (hB.mono HBl5.out.size))
  clear hB HC5
  have hP0 := HB.out.toP.below HBl6.out
  have hsz0 := Nat.le_trans hbs HBl6.out.size
  have HP0 := Lib.hid hP0
  have HS0 := Lib.hid hsz0
  clear hP0 hsz0
  have HQ := Lib.hid (putSteps_nil B w6 (nils_of HP0.out.blk).2.2.2.2)
  go_wp2_with fail
  refine HQ.out.mono ?_
  rintro e wx ⟨⟨v, rfl⟩, rfl⟩
  clear HQ
  have HQ := Lib.hid (putTexts_nil B _ (nils_of HP0.out.blk).1)
  go_wp2_with fail
  refine HQ.out.mono ?_
  rintro e wx ⟨⟨v, rfl⟩, rfl⟩
  clear HQ
  have HQ := Lib.hid (putInts_nil B _ (nils_of HP0.out.blk).2.1)
  go_wp2_with fail
  refine HQ.out.mono ?_
  rintro e wx ⟨⟨v, rfl⟩, rfl⟩
  clear HQ
  have HQ := Lib.hid (putPats_nil B _ (nils_of HP0.out.blk).2.2.1)
  go_wp2_with fail
  refine HQ.out.mono ?_
  rintro e wx ⟨⟨v, rfl⟩, rfl⟩
  clear HQ
  have HQ := Lib.hid (put_any base B m vs ls (.slice Va m Vc) U hm _ HP0.out HS0.out)
  go_wp2_with fail
  refine HQ.out.mono ?_
  rintro e wp ⟨⟨v, rfl⟩, hP1, hBp, hs1⟩
  have HP1 := Lib.hid hP1
  have HBp := Lib.hid hBp
  have HS1 := Lib.hid hs1
  clear HQ hP1 hBp hs1
  have HQ := Lib.hid (putValues_nil B wp (nils_of HP1.out.blk).2.2.2.1)
  go_wp2_with fail
  refine HQ.out.mono ?_
  rintro e wx ⟨⟨v, rfl⟩, rfl⟩
  clear HQ
  have HQ := Lib.hid (growTexts_nil B _ (nils_of HP1.out.blk).1)
  go_wp2_with fail
  refine HQ.out.mono ?_
  rintro e wx ⟨rfl, rfl⟩
  clear HQ
  have HQ := Lib.hid (growInts_nil B _ (nils_of HP1.out.blk).2.1)
  go_wp2_with fail
  refine HQ.out.mono ?_
  rintro e wx ⟨rfl, rfl⟩
  clear HQ
  have HQ := Lib.hid (growPats_nil B _ (nils_of HP1.out.blk).2.2.1)
  go_wp2_with fail
  refine HQ.out.mono ?_
  rintro e wx ⟨rfl, rfl⟩
  clear HQ
  have hml : ∀ i, i < m → mks ls m i = marks i 0 (ls i).length := fun i hi => by unfold mks; rw [if_pos hi]
  have HML := Lib.hid hml
  clear hml
  have HQ := Lib.hid (grow_any base B m vs (mks ls m) (fun i => (ls i).length) (.slice Va m Vc) U hm _ HP1.out HML.out HS1.out)
  go_wp2_with fail
  refine HQ.out.mono ?_
  rintro e wg ⟨G, gs, rfl, hP2, hG, hMk, hBg, hsg⟩
  have HP2 := Lib.hid hP2
  have HG := Lib.hid hG
  have HMk := Lib.hid hMk
  have HBg := Lib.hid hBg
  have HSg := Lib.hid hsg
  clear HQ hP2 hG hMk hBg hsg
  have HQ := Lib.hid (growValues_nil B _ (nils_of HP2.out.blk).2.2.2.1)
  go_wp2_with fail
  refine HQ.out.mono ?_
  rintro e wx ⟨rfl, rfl⟩
  clear HQ
  have HQ := Lib.hid (growSteps_nil B _ (nils_of HP2.out.blk).2.2.2.2)
  go_wp2_with fail
  refine HQ.out.mono ?_
  rintro e wx ⟨rfl, rfl⟩
  clear HQ
  obtain ⟨wm0, hwm0⟩ : ∃ wm0 : World, wm0 = wx := ⟨_, rfl⟩
  rw [← hwm0] at HP2 HG HMk HBg HSg ⊢
  clear hwm0
  have HM0 := Lib.hid (Below.refl wm0.heap.size wm0)
  have HC := Lib.hid (markedTexts_nil wm0)
  go_wp2_with fail
  refine HC.out.mono ?_
  rintro e wm1 ⟨rfl, hB⟩
  have HM1 := Lib.hid (HM0.out.trans (hB.mono HM0.out.size))
  clear hB HC HM0
  have cf : wm1.cell? ⟨B, 0, none⟩ = some nilV := (nils_of (HP2.out.blk.below HM1.out HP2.out.blk.lt)).1
  have HC := Lib.hid (markedTexts_nil wm1)
  go_wp2_with fail
  refine HC.out.mono ?_
  rintro e wm2 ⟨rfl, hB⟩
  have HM2 := Lib.hid (HM1.out.trans (hB.mono HM1.out.size))
  clear hB HC HM1 cf
  have HC := Lib.hid (markedInts_nil wm2)
  go_wp2_with fail
  refine HC.out.mono ?_
  rintro e wm3 ⟨rfl, hB⟩
  have HM3 := Lib.hid (HM2.out.trans (hB.mono HM2.out.size))
  clear hB HC HM2
  have cf : wm3.cell? ⟨B, 2, none⟩ = some nilV := (nils_of (HP2.out.blk.below HM3.out HP2.out.blk.lt)).2.1
  have HC := Lib.hid (markedInts_nil wm3)
  go_wp2_with fail
  refine HC.out.mono ?_
  rintro e wm4 ⟨rfl, hB⟩
  have HM4 := Lib.hid (HM3.out.trans (hB.mono HM3.out.size))
  clear hB HC HM3 cf
  have HC := Lib.hid (markedPats_nil wm4)
  go_wp2_with fail
  refine HC.out.mono ?_
  rintro e wm5 ⟨rfl, hB⟩
  have HM5 := Lib.hid (HM4.out.trans (hB.mono HM4.out.size))
  clear hB HC HM4
  have cf : wm5.cell? ⟨B, 4, none⟩ = some nilV := (nils_of (HP2.out.blk.below HM5.out HP2.out.blk.lt)).2.2.1
  have HC := Lib.hid (markedPats_nil wm5)
  go_wp2_with fail
  refine HC.out.mono ?_
  rintro e wm6 ⟨rfl, hB⟩
  have HM6 := Lib.hid (HM5.out.trans (hB.mono HM5.out.size))
  clear hB HC HM5 cf
  have HC := Lib.hid (marked_any _ base m G gs (fun i => (ls i).length + 72) hm wm6 (rowKept HG.out HM6.out) (HMk.out.below HM6.out))
  go_wp2_with fail
  refine HC.out.mono ?_
  rintro e wm7 ⟨rfl, hB⟩
  have HM7 := Lib.hid (HM6.out.trans (hB.mono HM6.out.size))
  clear hB HC HM6
  have cf : wm7.cell? ⟨B, 6, none⟩ = some (.slice Va m Vc) := ((HP2.out.blk.below HM7.out HP2.out.blk.lt).cell 6).trans rfl
  have hmv : Marked wm7 base m vs (fun i => (ls i).length) := fun i hi => ⟨by have := HB.out.len i hi; show (ls i).length ≤ 1000; omega, by have h1 := rowKept (HP2.out.rows i hi) HM7.out; rw [HML.out i hi, marks_len] at h1; exact h1⟩
  have HC := Lib.hid (marked_any base base m (.slice Va m Vc) vs (fun i => (ls i).length) hm wm7 (rowKept HP2.out.ownV HM7.out) hmv)
  clear hmv
  go_wp2_with fail
  refine HC.out.mono ?_
  rintro e wm8 ⟨rfl, hB⟩
  have HM8 := Lib.hid (HM7.out.trans (hB.mono HM7.out.size))
  clear hB HC HM7 cf
  have HC := Lib.hid (markedValues_nil wm8)
  go_wp2_with fail
  refine HC.out.mono ?_
  rintro e wm9 ⟨rfl, hB⟩
  have HM9 := Lib.hid (HM8.out.trans (hB.mono HM8.out.size))
  clear hB HC HM8
  have cf : wm9.cell? ⟨B, 8, none⟩ = some nilV := (nils_of (HP2.out.blk.below HM9.out HP2.out.blk.lt)).2.2.2.1
  have HC := Lib.hid (markedValues_nil wm9)
  go_wp2_with fail
  refine HC.out.mono ?_
  rintro e wm10 ⟨rfl, hB⟩
  have HM10 := Lib.hid (HM9.out.trans (hB.mono HM9.out.size))
  clear hB HC HM9 cf
  have HC := Lib.hid (markedSteps_nil wm10)
  go_wp2_with fail
  refine HC.out.mono ?_
  rintro e wm11 ⟨rfl, hB⟩
  have HM11 := Lib.hid (HM10.out.trans (hB.mono HM10.out.size))
  clear hB HC HM10
  have cf : wm11.cell? ⟨B, 10, none⟩ = some nilV := (nils_of (HP2.out.blk.below HM11.out HP2.out.blk.lt)).2.2.2.2
  have HC := Lib.hid (markedSteps_nil wm11)
  go_wp2_with fail
  refine HC.out.mono ?_
  rintro e wm12 ⟨rfl, hB⟩
  have HM12 := Lib.hid (HM11.out.trans (hB.mono HM11.out.size))
  clear hB HC HM11 cf
  go_wp2
  go_ret
  exact ⟨rfl, ((((HBl6.out.mono hbs).trans HBp.out).trans (HBg.out)).trans (HM12.out.mono (Nat.le_trans HS1.out HSg.out)))⟩
end Go.Proofs.YtgdnibdahldekabDoor
