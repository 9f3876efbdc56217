/- A reason's text, by the program and by the document: they are the same. -/
import Derived.Test.YtgdnibdahldekabDoorNmN
namespace Go.Proofs.YtgdnibdahldekabDoor
open Go.RowKit
set_option linter.unusedVariables false

theorem tab_below {w w' : World} (h : Tab w) (hB : Below w.heap.size w w') : Tab w' := by
  unfold Tab Lib.TabIs World.var? at *
  cases hg : Tryd.prog.globalNamed "internal/strconv.uint64pow10" with
  | none => rw [hg] at h; cases h
  | some g =>
    rw [hg] at h
    have hlt : g < w.heap.size := by
      apply Decidable.byContradiction
      intro hn
      simp only [Option.bind_some, Array.getElem?_eq_none (Nat.le_of_not_lt hn)] at h
      cases h
    simp only [Option.bind_some, hB.block g hlt] at h ⊢
    exact h
theorem itoa_below (c : Int) (h0 : -9223372036854775808 ≤ c) (h1 : c ≤ 9223372036854775807) (w : World) (ht : Tab w) :
    Calls Tryd.prog 25 #[.int .i64 c] w fun e w' => e = .returned (.string ⟨(Lib.itoa c).toArray⟩) ∧ Below w.heap.size w w' :=
  (Tryd.strconv_Itoa c h0 h1 w ht).mono fun e w' ⟨h1, k, os, h2⟩ => ⟨h1, by rw [h2]; exact below_grown w k os⟩
theorem ba_nil (b : ByteArray) : b ++ (⟨#[]⟩ : ByteArray) = b := by
  apply ByteArray.ext
  simp
/-- Both texts of a reason. -/
def TextS (d : Di) : Prop := ∃ s : ByteArray, 
  (∀ w, Tab w → Calls Tryd.prog 16 #[diV d] w fun e w' => e = .returned (.string s) ∧ Below w.heap.size w w') ∧
  (∀ w, Calls Tryd.prog 17 #[diV d] w fun e w' => e = .returned (.string s) ∧ Below w.heap.size w w')
set_option maxRecDepth 100000 in
set_option maxHeartbeats 1600000 in
theorem text_same (d : Di) (hc0 : -9223372036854775808 ≤ d.code) (hc1 : d.code ≤ 9223372036854775807) (ha0 : -9223372036854775808 ≤ d.at_) (ha1 : d.at_ ≤ 9223372036854775807) (hw : d.what.length ≤ 10000) : TextS d := by
  obtain ⟨code, at_, what⟩ := d
  simp only at hc0 hc1 ha0 ha1 hw
  have mixed : Tryd.prog.follows .mixedOrders = true := by kernel_rfl
  obtain ⟨nm, hnl, hN, hRN⟩ := name_same code hc0 hc1
  have hdl := Lib.itoa_length_le at_ ha0 ha1
  have HI := Lib.hid (fun w (ht : Tab w) => itoa_below at_ ha0 ha1 w ht)
  have HD := Lib.hid (fun w => digits_any at_ ha0 ha1 w)
  have HN := Lib.hid hN
  have HRN := Lib.hid hRN
  clear hN hRN hc0 hc1 ha0 ha1
  generalize Lib.itoa at_ = dg at *
  refine ⟨(((⟨nm.toArray⟩ ++ ⟨#[64]⟩) ++ ⟨dg.toArray⟩) ++ (if what = [] then ⟨#[]⟩ else ⟨#[32]⟩ ++ ⟨what.toArray⟩)), fun w ht => ?_, fun w => ?_⟩
  · have hB0 : Below w.heap.size w (w.alloc (.cells #[.int .i64 code, .int .i64 at_, .string ⟨what.toArray⟩] 31)) := (Below.refl _ w).alloc (Nat.le_refl _) _
    have hK0 : BlkAt (w.alloc (.cells #[.int .i64 code, .int .i64 at_, .string ⟨what.toArray⟩] 31)) w.heap.size 31 #[.int .i64 code, .int .i64 at_, .string ⟨what.toArray⟩] := BlkAt.new _ _ _
    have ht0 := tab_below ht hB0
    have hs0 : w.heap.size < (w.alloc (.cells #[.int .i64 code, .int .i64 at_, .string ⟨what.toArray⟩] 31)).heap.size := by simp
    go_enter Tryd.func16, Tryd.ntmps16
    go_wp2_with fail
    generalize w.alloc (.cells #[.int .i64 code, .int .i64 at_, .string ⟨what.toArray⟩] 31) = w1 at *
    have c0 : ∀ p, (lift w1 p).cell? ⟨w.heap.size, 0, none⟩ = some (.int .i64 code) := lift_cell (a := ⟨w.heap.size, 0, none⟩) hs0 ((hK0.cell 0).trans rfl)
    have c1 : ∀ p, (lift w1 p).cell? ⟨w.heap.size, 1, none⟩ = some (.int .i64 at_) := lift_cell (a := ⟨w.heap.size, 1, none⟩) hs0 ((hK0.cell 1).trans rfl)
    have c2 : ∀ p, (lift w1 p).cell? ⟨w.heap.size, 2, none⟩ = some (.string ⟨what.toArray⟩) := lift_cell (a := ⟨w.heap.size, 2, none⟩) hs0 ((hK0.cell 2).trans rfl)
    have HTab := Lib.hid (fun p => tab_below ht0 (below_lift w1 p))
    have HB0 := Lib.hid hB0
    have HS0 := Lib.hid hs0
    clear ht ht0 hB0 hs0 hK0
    have k1 : ¬ 9223372036854775807 < nm.length + 1 := by omega
    have k2 : ¬ 9223372036854775807 < nm.length + 1 + dg.length := by omega
    refine wp_region_quiet_below mixed (by kernel_rfl) ?_
    repeat (quiet_step (first
      | (go_at_call 14; exact calls_lift (HN.out _ (HTab.out _)))
      | (go_at_call 25; exact calls_lift (HI.out _ (HTab.out _)))))
    refine wpQuiet_nil ?_
    intro _ hw'
    obtain ⟨p, hw''⟩ := hw'
    subst hw''
    have d2 := c2 p
    have HBp := Lib.hid (HB0.out.trans ((below_lift w1 p).mono (Nat.le_of_lt HS0.out)))
    clear c0 c1 c2
    generalize lift w1 p = w2 at *
    cases what with
    | nil =>
      go_wp2
      go_ret
      exact ⟨by simp [ba_nil], HBp.out⟩
    | cons x xs =>
      rw [List.length_cons] at hw
      go_wp2
      go_ret
      exact ⟨by simp, HBp.out⟩
  · have hB0 : Below w.heap.size w (w.alloc (.cells #[.int .i64 code, .int .i64 at_, .string ⟨what.toArray⟩] 31)) := (Below.refl _ w).alloc (Nat.le_refl _) _
    have hK0 : BlkAt (w.alloc (.cells #[.int .i64 code, .int .i64 at_, .string ⟨what.toArray⟩] 31)) w.heap.size 31 #[.int .i64 code, .int .i64 at_, .string ⟨what.toArray⟩] := BlkAt.new _ _ _
    have hs0 : w.heap.size < (w.alloc (.cells #[.int .i64 code, .int .i64 at_, .string ⟨what.toArray⟩] 31)).heap.size := by simp
    go_enter Tryd.func17, Tryd.ntmps17
    go_wp2_with fail
    generalize w.alloc (.cells #[.int .i64 code, .int .i64 at_, .string ⟨what.toArray⟩] 31) = w1 at *
    have c0 : ∀ p, (lift w1 p).cell? ⟨w.heap.size, 0, none⟩ = some (.int .i64 code) := lift_cell (a := ⟨w.heap.size, 0, none⟩) hs0 ((hK0.cell 0).trans rfl)
    have c1 : ∀ p, (lift w1 p).cell? ⟨w.heap.size, 1, none⟩ = some (.int .i64 at_) := lift_cell (a := ⟨w.heap.size, 1, none⟩) hs0 ((hK0.cell 1).trans rfl)
    have c2 : ∀ p, (lift w1 p).cell? ⟨w.heap.size, 2, none⟩ = some (.string ⟨what.toArray⟩) := lift_cell (a := ⟨w.heap.size, 2, none⟩) hs0 ((hK0.cell 2).trans rfl)
    have HB0 := Lib.hid hB0
    have HS0 := Lib.hid hs0
    clear hB0 hs0 hK0
    have k1 : ¬ 9223372036854775807 < nm.length + 1 := by omega
    have k2 : ¬ 9223372036854775807 < nm.length + 1 + dg.length := by omega
    refine wp_region_quiet_below mixed (by kernel_rfl) ?_
    repeat (quiet_step (first
      | (go_at_call 15; exact calls_lift (HRN.out _))
      | (go_at_call 26; exact calls_lift (HD.out _))))
    refine wpQuiet_nil ?_
    intro _ hw'
    obtain ⟨p, hw''⟩ := hw'
    subst hw''
    have d2 := c2 p
    have HBp := Lib.hid (HB0.out.trans ((below_lift w1 p).mono (Nat.le_of_lt HS0.out)))
    clear c0 c1 c2
    generalize lift w1 p = w2 at *
    cases what with
    | nil =>
      go_wp2
      go_ret
      exact ⟨by simp [ba_nil], HBp.out⟩
    | cons x xs =>
      rw [List.length_cons] at hw
      go_wp2
      go_ret
      exact ⟨by simp [ByteArray.append_assoc], HBp.out⟩
end Go.Proofs.YtgdnibdahldekabDoor
